-- laid by wip/tools/regroup.py: printed functions, grouped by the laws that need them. Lean checks it.
import Derived.Test.YtncdmooobfomeaaGx0
import Derived.Test.YtncdmooobfomeaaGy0
namespace Go.Proofs.Ytncdmooobfomeaa.G
open Go.RowKit Go.Proofs.YtncdmooobfomeaaW.PrintWords Go.Proofs.YtncdmooobfomeaaW.PrintLast Go.Proofs.YtncdmooobfomeaaW.PrintMore
attribute [local go_sem] max2_int min2_int max_two min_two max_three min_three max_four min_four   -- for this text's walks alone
set_option linter.unusedVariables false
set_option linter.unusedSimpArgs false

/-! ### spec_l04Is: function 52 -/
mutual
def spec_l04Is.j0 : Nat → Bool → Int → Int → Int → Int → Int → Int → Int → Int → Int → Option (Bool)
 | 0, _, _, _, _, _, _, _, _, _, _ => none
 | k + 1, x27, x1000, x1001, x1002, x1003, x1004, x1005, x1006, x1007, x1008 => if x27 = true then (some false) else ((spec_l04Gaps.f x1000 x1001 x1002 x1003 x1004 x1005 x1006 x1007 x1008).bind fun t116 => ((spec_l04Strokes.f x1000 x1001 x1002 x1003 x1004 x1005 x1006 x1007 x1008).bind fun t119 => (spec_l04Is.l0 k t116 t119 0)))
def spec_l04Is.l0 : Nat → List Int → List Int → Int → Option (Bool)
 | 0, _, _, _ => none
 | k + 1, x3, x4, x5 => if x5 < 4 then (if 0 ≤ x5 then (if x5 < (x3.length : Int) then (if (rd x3 x5) < 0 then (some false) else (if x5 < (x4.length : Int) then ((spec_l00In.f (rd x4 x5) 0 2400).bind fun t124 => (if t124 = true then (spec_l04Is.l0 k x3 x4 (wrap64 (x5 + 1))) else (some false))) else (none))) else (none)) else (none)) else (some true)
end
def spec_l04Is.f (k : Nat) (a0_0 : Int) (a0_1 : Int) (a0_2 : Int) (a0_3 : Int) (a0_4 : Int) (a0_5 : Int) (a0_6 : Int) (a0_7 : Int) (a0_8 : Int) : Option (Bool) := (spec_l02Pose.f a0_0 a0_1 a0_2 a0_3).bind fun t113 => (if t113 = true then ((spec_l02Pose.f a0_4 a0_5 a0_6 a0_7).bind fun t114 => (if t114 = true then ((spec_l00In.f a0_8 0 2400).bind fun t115 => (spec_l04Is.j0 k (!t115) a0_0 a0_1 a0_2 a0_3 a0_4 a0_5 a0_6 a0_7 a0_8)) else (spec_l04Is.j0 k true a0_0 a0_1 a0_2 a0_3 a0_4 a0_5 a0_6 a0_7 a0_8))) else (spec_l04Is.j0 k true a0_0 a0_1 a0_2 a0_3 a0_4 a0_5 a0_6 a0_7 a0_8))
theorem spec_l04Is.mono_l : ∀ k, (∀ y0 y1 y2 y3 y4 y5 y6 y7 y8 y9, LeO (spec_l04Is.j0 k y0 y1 y2 y3 y4 y5 y6 y7 y8 y9) (spec_l04Is.j0 (k + 1) y0 y1 y2 y3 y4 y5 y6 y7 y8 y9)) ∧ (∀ y0 y1 y2, LeO (spec_l04Is.l0 k y0 y1 y2) (spec_l04Is.l0 (k + 1) y0 y1 y2))
 | 0 => ⟨fun _ _ _ _ _ _ _ _ _ _ r h => by simp [spec_l04Is.j0] at h, fun _ _ _ r h => by simp [spec_l04Is.l0] at h⟩
 | k + 1 => by
  obtain ⟨ih0, ih1⟩ := spec_l04Is.mono_l k
  refine ⟨?_, ?_⟩
  ·intro y0 y1 y2 y3 y4 y5 y6 y7 y8 y9
   unfold spec_l04Is.j0
   repeat' first
   | (with_reducible exact ih0 _ _ _ _ _ _ _ _ _ _)
   | (with_reducible exact ih1 _ _ _)
   | (with_reducible exact LeO.refl _)
   | (with_reducible exact LeO.none _)
   | (with_reducible refine LeO.ite ?_ ?_)
   | (with_reducible refine LeO.bind ?_ (fun _ => ?_))
   | exact ih0 _ _ _ _ _ _ _ _ _ _
   | exact ih1 _ _ _
   | exact LeO.none _
   | refine LeO.ite ?_ ?_
   | refine LeO.bind ?_ (fun _ => ?_)
  ·intro y0 y1 y2
   unfold spec_l04Is.l0
   repeat' first
   | (with_reducible exact ih0 _ _ _ _ _ _ _ _ _ _)
   | (with_reducible exact ih1 _ _ _)
   | (with_reducible exact LeO.refl _)
   | (with_reducible exact LeO.none _)
   | (with_reducible refine LeO.ite ?_ ?_)
   | (with_reducible refine LeO.bind ?_ (fun _ => ?_))
   | exact ih0 _ _ _ _ _ _ _ _ _ _
   | exact ih1 _ _ _
   | exact LeO.none _
   | refine LeO.ite ?_ ?_
   | refine LeO.bind ?_ (fun _ => ?_)
theorem spec_l04Is.mono : ∀ a0 a1 a2 a3 a4 a5 a6 a7 a8 k, LeO (spec_l04Is.f k a0 a1 a2 a3 a4 a5 a6 a7 a8) (spec_l04Is.f (k + 1) a0 a1 a2 a3 a4 a5 a6 a7 a8) := by
 intro a0 a1 a2 a3 a4 a5 a6 a7 a8 k
 obtain ⟨ih0, ih1⟩ := spec_l04Is.mono_l k
 unfold spec_l04Is.f
 repeat' first
   | (with_reducible exact ih0 _ _ _ _ _ _ _ _ _ _)
   | (with_reducible exact ih1 _ _ _)
   | (with_reducible exact LeO.refl _)
   | (with_reducible exact LeO.none _)
   | (with_reducible refine LeO.ite ?_ ?_)
   | (with_reducible refine LeO.bind ?_ (fun _ => ?_))
   | exact ih0 _ _ _ _ _ _ _ _ _ _
   | exact ih1 _ _ _
   | exact LeO.none _
   | refine LeO.ite ?_ ?_
   | refine LeO.bind ?_ (fun _ => ?_)
set_option maxHeartbeats 8000000 in
set_option maxRecDepth 100000 in
theorem spec_l04Is.calls (k : Nat) (gp0 : Nat) (a0_0 : Int) (a0_1 : Int) (a0_2 : Int) (a0_3 : Int) (a0_4 : Int) (a0_5 : Int) (a0_6 : Int) (a0_7 : Int) (a0_8 : Int) (r : Bool) (w : World) (hbx0 : w.heap[gp0]? = some (.cells #[.int .i64 a0_0, .int .i64 a0_1, .int .i64 a0_2, .int .i64 a0_3, .int .i64 a0_4, .int .i64 a0_5, .int .i64 a0_6, .int .i64 a0_7, .int .i64 a0_8] 27 (0, 0))) (h : spec_l04Is.f k a0_0 a0_1 a0_2 a0_3 a0_4 a0_5 a0_6 a0_7 a0_8 = some r) :
  Calls Try.prog 52 #[.pointer (some ⟨gp0, 0, none⟩)] w fun e w' => e = .returned (.bool r) ∧ Below w.heap.size w w' := by
 have hu25 := Try.underlying25
 have BK0 := Zm hbx0
 clear hbx0
 have HB := Zm (Below.refl w.heap.size w)
 have H : ((spec_l02Pose.f a0_0 a0_1 a0_2 a0_3).bind fun t113 => (if t113 = true then ((spec_l02Pose.f a0_4 a0_5 a0_6 a0_7).bind fun t114 => (if t114 = true then ((spec_l00In.f a0_8 0 2400).bind fun t115 => (spec_l04Is.j0 k (!t115) a0_0 a0_1 a0_2 a0_3 a0_4 a0_5 a0_6 a0_7 a0_8)) else (spec_l04Is.j0 k true a0_0 a0_1 a0_2 a0_3 a0_4 a0_5 a0_6 a0_7 a0_8))) else (spec_l04Is.j0 k true a0_0 a0_1 a0_2 a0_3 a0_4 a0_5 a0_6 a0_7 a0_8))) = some r := h
 clear h
 have HC2 := Zm H
 clear H
 go_enter Try.func52, Try.ntmps52
 go_upto_region 1 with (fail)
 go_cut [27] (fun v27 wc => ∃ (kq : Nat) (x27_1 : Bool), v27 = .bool x27_1 ∧ Aside0 (spec_l04Is.j0 kq x27_1 a0_0 a0_1 a0_2 a0_3 a0_4 a0_5 a0_6 a0_7 a0_8 = some r) ∧ Aside0 (kq ≤ k) ∧ Aside0 (wc.heap[gp0]? = some (.cells #[.int .i64 a0_0, .int .i64 a0_1, .int .i64 a0_2, .int .i64 a0_3, .int .i64 a0_4, .int .i64 a0_5, .int .i64 a0_6, .int .i64 a0_7, .int .i64 a0_8] 27 (0, 0))) ∧ Aside0 (Below w.heap.size w wc))
 case first =>
  have H := HC2.out
  clear HC2
  replace H := Option.bind_eq_some_iff.mp H
  obtain ⟨t113, A30, H⟩ := H
  replace H : (if t113 = true then ((spec_l02Pose.f a0_4 a0_5 a0_6 a0_7).bind fun t114 => (if t114 = true then ((spec_l00In.f a0_8 0 2400).bind fun t115 => (spec_l04Is.j0 k (!t115) a0_0 a0_1 a0_2 a0_3 a0_4 a0_5 a0_6 a0_7 a0_8)) else (spec_l04Is.j0 k true a0_0 a0_1 a0_2 a0_3 a0_4 a0_5 a0_6 a0_7 a0_8))) else (spec_l04Is.j0 k true a0_0 a0_1 a0_2 a0_3 a0_4 a0_5 a0_6 a0_7 a0_8)) = some r := H
  have A3 := Zm A30
  clear A30
  by_cases c4 : t113 = true
  ·subst c4
   have H1 : ((spec_l02Pose.f a0_4 a0_5 a0_6 a0_7).bind fun t114 => (if t114 = true then ((spec_l00In.f a0_8 0 2400).bind fun t115 => (spec_l04Is.j0 k (!t115) a0_0 a0_1 a0_2 a0_3 a0_4 a0_5 a0_6 a0_7 a0_8)) else (spec_l04Is.j0 k true a0_0 a0_1 a0_2 a0_3 a0_4 a0_5 a0_6 a0_7 a0_8))) = some r := by rw [if_pos rfl] at H; exact H
   clear H
   have H := H1
   clear H1
   replace H := Option.bind_eq_some_iff.mp H
   obtain ⟨t114, A50, H⟩ := H
   replace H : (if t114 = true then ((spec_l00In.f a0_8 0 2400).bind fun t115 => (spec_l04Is.j0 k (!t115) a0_0 a0_1 a0_2 a0_3 a0_4 a0_5 a0_6 a0_7 a0_8)) else (spec_l04Is.j0 k true a0_0 a0_1 a0_2 a0_3 a0_4 a0_5 a0_6 a0_7 a0_8)) = some r := H
   have A5 := Zm A50
   clear A50
   by_cases c6 : t114 = true
   ·subst c6
    have H1 : ((spec_l00In.f a0_8 0 2400).bind fun t115 => (spec_l04Is.j0 k (!t115) a0_0 a0_1 a0_2 a0_3 a0_4 a0_5 a0_6 a0_7 a0_8)) = some r := by rw [if_pos rfl] at H; exact H
    clear H
    have H := H1
    clear H1
    replace H := Option.bind_eq_some_iff.mp H
    obtain ⟨t115, A70, H⟩ := H
    replace H : (spec_l04Is.j0 k (!t115) a0_0 a0_1 a0_2 a0_3 a0_4 a0_5 a0_6 a0_7 a0_8) = some r := H
    have A7 := Zm A70
    clear A70
    have H' := Zm H
    clear H
    have hcz8_0 : w.cell? ⟨gp0, 0, none⟩ = some (.int .i64 a0_0) := (Zc BK0.out 0).trans rfl
    have hcz8_1 : w.cell? ⟨gp0, 1, none⟩ = some (.int .i64 a0_1) := (Zc BK0.out 1).trans rfl
    have hcz8_2 : w.cell? ⟨gp0, 2, none⟩ = some (.int .i64 a0_2) := (Zc BK0.out 2).trans rfl
    have hcz8_3 : w.cell? ⟨gp0, 3, none⟩ = some (.int .i64 a0_3) := (Zc BK0.out 3).trans rfl
    have hcz8_4 : w.cell? ⟨gp0, 4, none⟩ = some (.int .i64 a0_4) := (Zc BK0.out 4).trans rfl
    have hcz8_5 : w.cell? ⟨gp0, 5, none⟩ = some (.int .i64 a0_5) := (Zc BK0.out 5).trans rfl
    have hcz8_6 : w.cell? ⟨gp0, 6, none⟩ = some (.int .i64 a0_6) := (Zc BK0.out 6).trans rfl
    have hcz8_7 : w.cell? ⟨gp0, 7, none⟩ = some (.int .i64 a0_7) := (Zc BK0.out 7).trans rfl
    have hcz8_8 : w.cell? ⟨gp0, 8, none⟩ = some (.int .i64 a0_8) := (Zc BK0.out 8).trans rfl
    have hfz8_0 := Zf BK0.out 0
    have hfz8_1 := Zf BK0.out 1
    have hfz8_2 := Zf BK0.out 2
    have hfz8_3 := Zf BK0.out 3
    have hfz8_4 := Zf BK0.out 4
    have hfz8_5 := Zf BK0.out 5
    have hfz8_6 := Zf BK0.out 6
    have hfz8_7 := Zf BK0.out 7
    have hfz8_8 := Zf BK0.out 8
    go_wp2_with (first | ((with_reducible refine gate_callee (f := 74) rfl ?_); refine goesL_ (some 10) rfl rfl Try.func74 (by kernel_rfl) rfl #[.agg #[.int .i64 a0_0, .int .i64 a0_1, .int .i64 a0_2, .int .i64 a0_3]] rfl (by (try simp only [List.map_toArray, List.map_cons, List.map_nil]); first | done | rfl | (simp only [List.length_drop, List.length_take]; rfl)) ?_; (with_reducible refine (spec_l02Pose.calls a0_0 a0_1 a0_2 a0_3 true _ A3.out).mono ?_); rintro e w9 ⟨rfl, hb⟩; refine ⟨_, rfl, ?_⟩; have n0_ := Zm (blk_below (g := gp0) (o := .cells #[.int .i64 a0_0, .int .i64 a0_1, .int .i64 a0_2, .int .i64 a0_3, .int .i64 a0_4, .int .i64 a0_5, .int .i64 a0_6, .int .i64 a0_7, .int .i64 a0_8] 27 (0, 0)) (by (with_reducible repeat (first | refine Zn ?_ _ | refine Zd ?_ | refine Za ?_ _)); exact BK0.out) hb); have n1_ := Zm (below_step (by repeat (first | (with_reducible first | exact HB.out | apply Zl | apply Zp | apply Ze | refine Zs ?_ GE0.out) | exact HB.out)) hb); clear BK0; clear HB; have BK0 := n0_; have HB := n1_; clear n0_ n1_; (try clear hb); (try clear hb2); (try clear hk); (try clear hi); have hcz10_0 : w9.cell? ⟨gp0, 0, none⟩ = some (.int .i64 a0_0) := (Zc BK0.out 0).trans rfl; have hcz10_1 : w9.cell? ⟨gp0, 1, none⟩ = some (.int .i64 a0_1) := (Zc BK0.out 1).trans rfl; have hcz10_2 : w9.cell? ⟨gp0, 2, none⟩ = some (.int .i64 a0_2) := (Zc BK0.out 2).trans rfl; have hcz10_3 : w9.cell? ⟨gp0, 3, none⟩ = some (.int .i64 a0_3) := (Zc BK0.out 3).trans rfl; have hcz10_4 : w9.cell? ⟨gp0, 4, none⟩ = some (.int .i64 a0_4) := (Zc BK0.out 4).trans rfl; have hcz10_5 : w9.cell? ⟨gp0, 5, none⟩ = some (.int .i64 a0_5) := (Zc BK0.out 5).trans rfl; have hcz10_6 : w9.cell? ⟨gp0, 6, none⟩ = some (.int .i64 a0_6) := (Zc BK0.out 6).trans rfl; have hcz10_7 : w9.cell? ⟨gp0, 7, none⟩ = some (.int .i64 a0_7) := (Zc BK0.out 7).trans rfl; have hcz10_8 : w9.cell? ⟨gp0, 8, none⟩ = some (.int .i64 a0_8) := (Zc BK0.out 8).trans rfl; have hfz10_0 := Zf BK0.out 0; have hfz10_1 := Zf BK0.out 1; have hfz10_2 := Zf BK0.out 2; have hfz10_3 := Zf BK0.out 3; have hfz10_4 := Zf BK0.out 4; have hfz10_5 := Zf BK0.out 5; have hfz10_6 := Zf BK0.out 6; have hfz10_7 := Zf BK0.out 7; have hfz10_8 := Zf BK0.out 8) | (go_at_call 74; (with_reducible refine (spec_l02Pose.calls a0_4 a0_5 a0_6 a0_7 true _ A5.out).mono ?_); rintro e w11 ⟨rfl, hb⟩; have n0_ := Zm (blk_below (g := gp0) (o := .cells #[.int .i64 a0_0, .int .i64 a0_1, .int .i64 a0_2, .int .i64 a0_3, .int .i64 a0_4, .int .i64 a0_5, .int .i64 a0_6, .int .i64 a0_7, .int .i64 a0_8] 27 (0, 0)) (by (with_reducible repeat (first | refine Zn ?_ _ | refine Zd ?_ | refine Za ?_ _)); exact BK0.out) hb); have n1_ := Zm (below_step (by repeat (first | (with_reducible first | exact HB.out | apply Zl | apply Zp | apply Ze | refine Zs ?_ GE0.out) | exact HB.out)) hb); clear BK0; clear HB; have BK0 := n0_; have HB := n1_; clear n0_ n1_; (try clear hb); (try clear hb2); (try clear hk); (try clear hi); have hcz12_0 : w11.cell? ⟨gp0, 0, none⟩ = some (.int .i64 a0_0) := (Zc BK0.out 0).trans rfl; have hcz12_1 : w11.cell? ⟨gp0, 1, none⟩ = some (.int .i64 a0_1) := (Zc BK0.out 1).trans rfl; have hcz12_2 : w11.cell? ⟨gp0, 2, none⟩ = some (.int .i64 a0_2) := (Zc BK0.out 2).trans rfl; have hcz12_3 : w11.cell? ⟨gp0, 3, none⟩ = some (.int .i64 a0_3) := (Zc BK0.out 3).trans rfl; have hcz12_4 : w11.cell? ⟨gp0, 4, none⟩ = some (.int .i64 a0_4) := (Zc BK0.out 4).trans rfl; have hcz12_5 : w11.cell? ⟨gp0, 5, none⟩ = some (.int .i64 a0_5) := (Zc BK0.out 5).trans rfl; have hcz12_6 : w11.cell? ⟨gp0, 6, none⟩ = some (.int .i64 a0_6) := (Zc BK0.out 6).trans rfl; have hcz12_7 : w11.cell? ⟨gp0, 7, none⟩ = some (.int .i64 a0_7) := (Zc BK0.out 7).trans rfl; have hcz12_8 : w11.cell? ⟨gp0, 8, none⟩ = some (.int .i64 a0_8) := (Zc BK0.out 8).trans rfl; have hfz12_0 := Zf BK0.out 0; have hfz12_1 := Zf BK0.out 1; have hfz12_2 := Zf BK0.out 2; have hfz12_3 := Zf BK0.out 3; have hfz12_4 := Zf BK0.out 4; have hfz12_5 := Zf BK0.out 5; have hfz12_6 := Zf BK0.out 6; have hfz12_7 := Zf BK0.out 7; have hfz12_8 := Zf BK0.out 8) | (go_at_call 53; (with_reducible refine (spec_l00In.calls a0_8 0 2400 t115 _ A7.out).mono ?_); rintro e w' ⟨rfl, ⟨nd, rfl⟩⟩))
    go_meet
    case rel => exact ⟨_, (!t115), (by first | rfl | (simp; done) | (simp [*]; done)), H', ⟨by first | omega | exact Nat.le_refl _⟩, ⟨by (with_reducible repeat (first | refine Zn ?_ _ | refine Zd ?_ | refine Za ?_ _)); exact BK0.out⟩, ⟨by repeat (first | (with_reducible first | exact HB.out | apply Zl | apply Zp | apply Ze | refine Zs ?_ GE0.out) | exact HB.out)⟩⟩
   ·replace c6 := Bool.eq_false_iff.mpr c6
    subst c6
    have H1 : (spec_l04Is.j0 k true a0_0 a0_1 a0_2 a0_3 a0_4 a0_5 a0_6 a0_7 a0_8) = some r := by rw [if_neg (show ¬ (false = true) by decide)] at H; exact H
    clear H
    have H := H1
    clear H1
    have H' := Zm H
    clear H
    have hcz13_0 : w.cell? ⟨gp0, 0, none⟩ = some (.int .i64 a0_0) := (Zc BK0.out 0).trans rfl
    have hcz13_1 : w.cell? ⟨gp0, 1, none⟩ = some (.int .i64 a0_1) := (Zc BK0.out 1).trans rfl
    have hcz13_2 : w.cell? ⟨gp0, 2, none⟩ = some (.int .i64 a0_2) := (Zc BK0.out 2).trans rfl
    have hcz13_3 : w.cell? ⟨gp0, 3, none⟩ = some (.int .i64 a0_3) := (Zc BK0.out 3).trans rfl
    have hcz13_4 : w.cell? ⟨gp0, 4, none⟩ = some (.int .i64 a0_4) := (Zc BK0.out 4).trans rfl
    have hcz13_5 : w.cell? ⟨gp0, 5, none⟩ = some (.int .i64 a0_5) := (Zc BK0.out 5).trans rfl
    have hcz13_6 : w.cell? ⟨gp0, 6, none⟩ = some (.int .i64 a0_6) := (Zc BK0.out 6).trans rfl
    have hcz13_7 : w.cell? ⟨gp0, 7, none⟩ = some (.int .i64 a0_7) := (Zc BK0.out 7).trans rfl
    have hcz13_8 : w.cell? ⟨gp0, 8, none⟩ = some (.int .i64 a0_8) := (Zc BK0.out 8).trans rfl
    have hfz13_0 := Zf BK0.out 0
    have hfz13_1 := Zf BK0.out 1
    have hfz13_2 := Zf BK0.out 2
    have hfz13_3 := Zf BK0.out 3
    have hfz13_4 := Zf BK0.out 4
    have hfz13_5 := Zf BK0.out 5
    have hfz13_6 := Zf BK0.out 6
    have hfz13_7 := Zf BK0.out 7
    have hfz13_8 := Zf BK0.out 8
    go_wp2_with (first | ((with_reducible refine gate_callee (f := 74) rfl ?_); refine goesL_ (some 10) rfl rfl Try.func74 (by kernel_rfl) rfl #[.agg #[.int .i64 a0_0, .int .i64 a0_1, .int .i64 a0_2, .int .i64 a0_3]] rfl (by (try simp only [List.map_toArray, List.map_cons, List.map_nil]); first | done | rfl | (simp only [List.length_drop, List.length_take]; rfl)) ?_; (with_reducible refine (spec_l02Pose.calls a0_0 a0_1 a0_2 a0_3 true _ A3.out).mono ?_); rintro e w14 ⟨rfl, hb⟩; refine ⟨_, rfl, ?_⟩; have n0_ := Zm (blk_below (g := gp0) (o := .cells #[.int .i64 a0_0, .int .i64 a0_1, .int .i64 a0_2, .int .i64 a0_3, .int .i64 a0_4, .int .i64 a0_5, .int .i64 a0_6, .int .i64 a0_7, .int .i64 a0_8] 27 (0, 0)) (by (with_reducible repeat (first | refine Zn ?_ _ | refine Zd ?_ | refine Za ?_ _)); exact BK0.out) hb); have n1_ := Zm (below_step (by repeat (first | (with_reducible first | exact HB.out | apply Zl | apply Zp | apply Ze | refine Zs ?_ GE0.out) | exact HB.out)) hb); clear BK0; clear HB; have BK0 := n0_; have HB := n1_; clear n0_ n1_; (try clear hb); (try clear hb2); (try clear hk); (try clear hi); have hcz15_0 : w14.cell? ⟨gp0, 0, none⟩ = some (.int .i64 a0_0) := (Zc BK0.out 0).trans rfl; have hcz15_1 : w14.cell? ⟨gp0, 1, none⟩ = some (.int .i64 a0_1) := (Zc BK0.out 1).trans rfl; have hcz15_2 : w14.cell? ⟨gp0, 2, none⟩ = some (.int .i64 a0_2) := (Zc BK0.out 2).trans rfl; have hcz15_3 : w14.cell? ⟨gp0, 3, none⟩ = some (.int .i64 a0_3) := (Zc BK0.out 3).trans rfl; have hcz15_4 : w14.cell? ⟨gp0, 4, none⟩ = some (.int .i64 a0_4) := (Zc BK0.out 4).trans rfl; have hcz15_5 : w14.cell? ⟨gp0, 5, none⟩ = some (.int .i64 a0_5) := (Zc BK0.out 5).trans rfl; have hcz15_6 : w14.cell? ⟨gp0, 6, none⟩ = some (.int .i64 a0_6) := (Zc BK0.out 6).trans rfl; have hcz15_7 : w14.cell? ⟨gp0, 7, none⟩ = some (.int .i64 a0_7) := (Zc BK0.out 7).trans rfl; have hcz15_8 : w14.cell? ⟨gp0, 8, none⟩ = some (.int .i64 a0_8) := (Zc BK0.out 8).trans rfl; have hfz15_0 := Zf BK0.out 0; have hfz15_1 := Zf BK0.out 1; have hfz15_2 := Zf BK0.out 2; have hfz15_3 := Zf BK0.out 3; have hfz15_4 := Zf BK0.out 4; have hfz15_5 := Zf BK0.out 5; have hfz15_6 := Zf BK0.out 6; have hfz15_7 := Zf BK0.out 7; have hfz15_8 := Zf BK0.out 8) | (go_at_call 74; (with_reducible refine (spec_l02Pose.calls a0_4 a0_5 a0_6 a0_7 false _ A5.out).mono ?_); rintro e w16 ⟨rfl, hb⟩; have n0_ := Zm (blk_below (g := gp0) (o := .cells #[.int .i64 a0_0, .int .i64 a0_1, .int .i64 a0_2, .int .i64 a0_3, .int .i64 a0_4, .int .i64 a0_5, .int .i64 a0_6, .int .i64 a0_7, .int .i64 a0_8] 27 (0, 0)) (by (with_reducible repeat (first | refine Zn ?_ _ | refine Zd ?_ | refine Za ?_ _)); exact BK0.out) hb); have n1_ := Zm (below_step (by repeat (first | (with_reducible first | exact HB.out | apply Zl | apply Zp | apply Ze | refine Zs ?_ GE0.out) | exact HB.out)) hb); clear BK0; clear HB; have BK0 := n0_; have HB := n1_; clear n0_ n1_; (try clear hb); (try clear hb2); (try clear hk); (try clear hi)))
    go_meet
    case rel => exact ⟨_, (true), (by first | rfl | (simp; done) | (simp [*]; done)), H', ⟨by first | omega | exact Nat.le_refl _⟩, ⟨by (with_reducible repeat (first | refine Zn ?_ _ | refine Zd ?_ | refine Za ?_ _)); exact BK0.out⟩, ⟨by repeat (first | (with_reducible first | exact HB.out | apply Zl | apply Zp | apply Ze | refine Zs ?_ GE0.out) | exact HB.out)⟩⟩
  ·replace c4 := Bool.eq_false_iff.mpr c4
   subst c4
   have H1 : (spec_l04Is.j0 k true a0_0 a0_1 a0_2 a0_3 a0_4 a0_5 a0_6 a0_7 a0_8) = some r := by rw [if_neg (show ¬ (false = true) by decide)] at H; exact H
   clear H
   have H := H1
   clear H1
   have H' := Zm H
   clear H
   have hcz17_0 : w.cell? ⟨gp0, 0, none⟩ = some (.int .i64 a0_0) := (Zc BK0.out 0).trans rfl
   have hcz17_1 : w.cell? ⟨gp0, 1, none⟩ = some (.int .i64 a0_1) := (Zc BK0.out 1).trans rfl
   have hcz17_2 : w.cell? ⟨gp0, 2, none⟩ = some (.int .i64 a0_2) := (Zc BK0.out 2).trans rfl
   have hcz17_3 : w.cell? ⟨gp0, 3, none⟩ = some (.int .i64 a0_3) := (Zc BK0.out 3).trans rfl
   have hcz17_4 : w.cell? ⟨gp0, 4, none⟩ = some (.int .i64 a0_4) := (Zc BK0.out 4).trans rfl
   have hcz17_5 : w.cell? ⟨gp0, 5, none⟩ = some (.int .i64 a0_5) := (Zc BK0.out 5).trans rfl
   have hcz17_6 : w.cell? ⟨gp0, 6, none⟩ = some (.int .i64 a0_6) := (Zc BK0.out 6).trans rfl
   have hcz17_7 : w.cell? ⟨gp0, 7, none⟩ = some (.int .i64 a0_7) := (Zc BK0.out 7).trans rfl
   have hcz17_8 : w.cell? ⟨gp0, 8, none⟩ = some (.int .i64 a0_8) := (Zc BK0.out 8).trans rfl
   have hfz17_0 := Zf BK0.out 0
   have hfz17_1 := Zf BK0.out 1
   have hfz17_2 := Zf BK0.out 2
   have hfz17_3 := Zf BK0.out 3
   have hfz17_4 := Zf BK0.out 4
   have hfz17_5 := Zf BK0.out 5
   have hfz17_6 := Zf BK0.out 6
   have hfz17_7 := Zf BK0.out 7
   have hfz17_8 := Zf BK0.out 8
   go_wp2_with (first | ((with_reducible refine gate_callee (f := 74) rfl ?_); refine goesL_ (some 10) rfl rfl Try.func74 (by kernel_rfl) rfl #[.agg #[.int .i64 a0_0, .int .i64 a0_1, .int .i64 a0_2, .int .i64 a0_3]] rfl (by (try simp only [List.map_toArray, List.map_cons, List.map_nil]); first | done | rfl | (simp only [List.length_drop, List.length_take]; rfl)) ?_; (with_reducible refine (spec_l02Pose.calls a0_0 a0_1 a0_2 a0_3 false _ A3.out).mono ?_); rintro e w18 ⟨rfl, hb⟩; refine ⟨_, rfl, ?_⟩; have n0_ := Zm (blk_below (g := gp0) (o := .cells #[.int .i64 a0_0, .int .i64 a0_1, .int .i64 a0_2, .int .i64 a0_3, .int .i64 a0_4, .int .i64 a0_5, .int .i64 a0_6, .int .i64 a0_7, .int .i64 a0_8] 27 (0, 0)) (by (with_reducible repeat (first | refine Zn ?_ _ | refine Zd ?_ | refine Za ?_ _)); exact BK0.out) hb); have n1_ := Zm (below_step (by repeat (first | (with_reducible first | exact HB.out | apply Zl | apply Zp | apply Ze | refine Zs ?_ GE0.out) | exact HB.out)) hb); clear BK0; clear HB; have BK0 := n0_; have HB := n1_; clear n0_ n1_; (try clear hb); (try clear hb2); (try clear hk); (try clear hi)))
   go_meet
   case rel => exact ⟨_, (true), (by first | rfl | (simp; done) | (simp [*]; done)), H', ⟨by first | omega | exact Nat.le_refl _⟩, ⟨by (with_reducible repeat (first | refine Zn ?_ _ | refine Zd ?_ | refine Za ?_ _)); exact BK0.out⟩, ⟨by repeat (first | (with_reducible first | exact HB.out | apply Zl | apply Zp | apply Ze | refine Zs ?_ GE0.out) | exact HB.out)⟩⟩
 case rest =>
  clear HC2
  try clear p2
  try clear c4
  try clear c5
  try clear c6
  try clear c7
  try clear hcz10_0
  try clear hcz10_1
  try clear hcz10_2
  try clear hcz10_3
  try clear hcz10_4
  try clear hcz10_5
  try clear hcz10_6
  try clear hcz10_7
  try clear hcz10_8
  try clear hcz12_0
  try clear hcz12_1
  try clear hcz12_2
  try clear hcz12_3
  try clear hcz12_4
  try clear hcz12_5
  try clear hcz12_6
  try clear hcz12_7
  try clear hcz12_8
  try clear hcz13_0
  try clear hcz13_1
  try clear hcz13_2
  try clear hcz13_3
  try clear hcz13_4
  try clear hcz13_5
  try clear hcz13_6
  try clear hcz13_7
  try clear hcz13_8
  try clear hcz15_0
  try clear hcz15_1
  try clear hcz15_2
  try clear hcz15_3
  try clear hcz15_4
  try clear hcz15_5
  try clear hcz15_6
  try clear hcz15_7
  try clear hcz15_8
  try clear hcz17_0
  try clear hcz17_1
  try clear hcz17_2
  try clear hcz17_3
  try clear hcz17_4
  try clear hcz17_5
  try clear hcz17_6
  try clear hcz17_7
  try clear hcz17_8
  try clear hcz8_0
  try clear hcz8_1
  try clear hcz8_2
  try clear hcz8_3
  try clear hcz8_4
  try clear hcz8_5
  try clear hcz8_6
  try clear hcz8_7
  try clear hcz8_8
  try clear hfz10_0
  try clear hfz10_1
  try clear hfz10_2
  try clear hfz10_3
  try clear hfz10_4
  try clear hfz10_5
  try clear hfz10_6
  try clear hfz10_7
  try clear hfz10_8
  try clear hfz12_0
  try clear hfz12_1
  try clear hfz12_2
  try clear hfz12_3
  try clear hfz12_4
  try clear hfz12_5
  try clear hfz12_6
  try clear hfz12_7
  try clear hfz12_8
  try clear hfz13_0
  try clear hfz13_1
  try clear hfz13_2
  try clear hfz13_3
  try clear hfz13_4
  try clear hfz13_5
  try clear hfz13_6
  try clear hfz13_7
  try clear hfz13_8
  try clear hfz15_0
  try clear hfz15_1
  try clear hfz15_2
  try clear hfz15_3
  try clear hfz15_4
  try clear hfz15_5
  try clear hfz15_6
  try clear hfz15_7
  try clear hfz15_8
  try clear hfz17_0
  try clear hfz17_1
  try clear hfz17_2
  try clear hfz17_3
  try clear hfz17_4
  try clear hfz17_5
  try clear hfz17_6
  try clear hfz17_7
  try clear hfz17_8
  try clear hfz8_0
  try clear hfz8_1
  try clear hfz8_2
  try clear hfz8_3
  try clear hfz8_4
  try clear hfz8_5
  try clear hfz8_6
  try clear hfz8_7
  try clear hfz8_8
  obtain ⟨kq, x27_1, rfl, HA, HJ1, BK0, HB⟩ := hcut
  cases kq with
  | zero => exact absurd HA.out (by simp [spec_l04Is.j0])
  | succ kj1 =>
   have H := HA.out
   clear HA
   simp only [spec_l04Is.j0] at H
   by_cases c19 : x27_1 = true
   ·subst c19
    have H1 : (some false) = some r := by rw [if_pos rfl] at H; exact H
    clear H
    have H := H1
    clear H1
    obtain rfl := Option.some.inj H
    go_wp2
    go_ret
    exact ⟨by first | rfl | (simp [errW_none, errW_some] <;> rfl) | (simp [*, errW_none, errW_some] <;> rfl), by repeat (first | (with_reducible first | exact HB.out | apply Zl | apply Zp | apply Ze | refine Zs ?_ GE0.out) | exact HB.out)⟩
   ·replace c19 := Bool.eq_false_iff.mpr c19
    subst c19
    have H1 : ((spec_l04Gaps.f a0_0 a0_1 a0_2 a0_3 a0_4 a0_5 a0_6 a0_7 a0_8).bind fun t116 => ((spec_l04Strokes.f a0_0 a0_1 a0_2 a0_3 a0_4 a0_5 a0_6 a0_7 a0_8).bind fun t119 => (spec_l04Is.l0 kj1 t116 t119 0))) = some r := by rw [if_neg (show ¬ (false = true) by decide)] at H; exact H
    clear H
    have H := H1
    clear H1
    replace H := Option.bind_eq_some_iff.mp H
    obtain ⟨t116, A200, H⟩ := H
    replace H : ((spec_l04Strokes.f a0_0 a0_1 a0_2 a0_3 a0_4 a0_5 a0_6 a0_7 a0_8).bind fun t119 => (spec_l04Is.l0 kj1 t116 t119 0)) = some r := H
    have A20 := Zm A200
    clear A200
    replace H := Option.bind_eq_some_iff.mp H
    obtain ⟨t119, A210, H⟩ := H
    replace H : (spec_l04Is.l0 kj1 t116 t119 0) = some r := H
    have A21 := Zm A210
    clear A210
    have H' := Zm H
    clear H
    go_wp2_with (first | ((with_reducible refine gate_callee (f := 75) rfl ?_); refine goesL_ (some 29) rfl rfl Try.func75 (by kernel_rfl) rfl #[.pointer (some ⟨gp0, 0, none⟩)] rfl (by (try simp only [List.map_toArray, List.map_cons, List.map_nil]); first | done | rfl | (simp only [List.length_drop, List.length_take]; rfl)) ?_; (with_reducible refine (spec_l04Gaps.calls gp0 a0_0 a0_1 a0_2 a0_3 a0_4 a0_5 a0_6 a0_7 a0_8 t116 _ ?side1 A20.out).mono ?_); (case side1 => (with_reducible repeat (first | refine Zn ?_ _ | refine Zd ?_ | refine Za ?_ _)); exact BK0.out); rintro e w22 ⟨v117, rfl, ho0, hb⟩; refine ⟨_, rfl, ?_⟩; have n0_ := Zm (Kd.R_lower ho0 (below_size (by repeat (first | (with_reducible first | exact HB.out | apply Zl | apply Zp | apply Ze | refine Zs ?_ GE0.out) | exact HB.out)))); have n1_ := Zm (blk_below (g := gp0) (o := .cells #[.int .i64 a0_0, .int .i64 a0_1, .int .i64 a0_2, .int .i64 a0_3, .int .i64 a0_4, .int .i64 a0_5, .int .i64 a0_6, .int .i64 a0_7, .int .i64 a0_8] 27 (0, 0)) (by (with_reducible repeat (first | refine Zn ?_ _ | refine Zd ?_ | refine Za ?_ _)); exact BK0.out) hb); have n2_ := Zm (below_step (by repeat (first | (with_reducible first | exact HB.out | apply Zl | apply Zp | apply Ze | refine Zs ?_ GE0.out) | exact HB.out)) hb); clear BK0; clear HB; have HO118 := n0_; have BK0 := n1_; have HB := n2_; clear n0_ n1_ n2_; (try clear hb); (try clear hb2); (try clear hk); (try clear hi); (try clear ho0)) | ((with_reducible refine gate_callee (f := 76) rfl ?_); refine goesL_ (some 31) rfl rfl Try.func76 (by kernel_rfl) rfl #[.pointer (some ⟨gp0, 0, none⟩)] rfl (by (try simp only [List.map_toArray, List.map_cons, List.map_nil]); first | done | rfl | (simp only [List.length_drop, List.length_take]; rfl)) ?_; (with_reducible refine (spec_l04Strokes.calls gp0 a0_0 a0_1 a0_2 a0_3 a0_4 a0_5 a0_6 a0_7 a0_8 t119 _ ?side1 A21.out).mono ?_); (case side1 => (with_reducible repeat (first | refine Zn ?_ _ | refine Zd ?_ | refine Za ?_ _)); exact BK0.out); rintro e w23 ⟨v120, rfl, ho0, hb⟩; refine ⟨_, rfl, ?_⟩; have n0_ := Zm (Kd.R_elder' (by (with_reducible repeat (first | apply Kd.R_alloc | apply Kd.R_drewN | apply Kd.R_drew)); exact HO118.out) (Kd.R_base ho0) hb); have n1_ := Zm (Kd.R_lower (Kd.R_new' ho0 (Kd.R_lt (by (with_reducible repeat (first | apply Kd.R_alloc | apply Kd.R_drewN | apply Kd.R_drew)); exact HO118.out))) (below_size (by repeat (first | (with_reducible first | exact HB.out | apply Zl | apply Zp | apply Ze | refine Zs ?_ GE0.out) | exact HB.out)))); have n2_ := Zm (blk_below (g := gp0) (o := .cells #[.int .i64 a0_0, .int .i64 a0_1, .int .i64 a0_2, .int .i64 a0_3, .int .i64 a0_4, .int .i64 a0_5, .int .i64 a0_6, .int .i64 a0_7, .int .i64 a0_8] 27 (0, 0)) (by (with_reducible repeat (first | refine Zn ?_ _ | refine Zd ?_ | refine Za ?_ _)); exact BK0.out) hb); have n3_ := Zm (below_step (by repeat (first | (with_reducible first | exact HB.out | apply Zl | apply Zp | apply Ze | refine Zs ?_ GE0.out) | exact HB.out)) hb); clear HO118; clear BK0; clear HB; have HO118 := n0_; have HO121 := n1_; have BK0 := n2_; have HB := n3_; clear n0_ n1_ n2_ n3_; (try clear hb); (try clear hb2); (try clear hk); (try clear hi); (try clear ho0)))
    go_loopg [5] kj1 (fun kq v5 w' => ∃ (x5_2 : Int), v5 = .int .i64 x5_2 ∧ Aside0 (spec_l04Is.l0 kq t116 t119 x5_2 = some r) ∧ Aside0 (kq ≤ kj1) ∧ Aside0 (Kd.R (Kd.int .i64) 2 w' w.heap.size (fun k_ => some k_ ≠ (v120 : Value).ownBlock) v117 t116) ∧ Aside0 (Kd.R (Kd.int .i64) 2 w' w.heap.size (fun k_ => some k_ ≠ (v117 : Value).ownBlock) v120 t119) ∧ Aside0 (w'.heap[gp0]? = some (.cells #[.int .i64 a0_0, .int .i64 a0_1, .int .i64 a0_2, .int .i64 a0_3, .int .i64 a0_4, .int .i64 a0_5, .int .i64 a0_6, .int .i64 a0_7, .int .i64 a0_8] 27 (0, 0))) ∧ Aside0 (Below w.heap.size w w'))
    case atStart => exact ⟨(0), (by first | rfl | (simp; done) | (simp [*]; done)), H', ⟨Nat.le_refl _⟩, ⟨by (with_reducible repeat (first | apply Kd.R_alloc | apply Kd.R_drewN | apply Kd.R_drew)); exact Kd.R_mono HO118.out (fun _ hk => hk.2)⟩, ⟨by (with_reducible repeat (first | apply Kd.R_alloc | apply Kd.R_drewN | apply Kd.R_drew)); exact Kd.R_mono HO121.out (fun _ hk => hk.2)⟩, ⟨by (with_reducible repeat (first | refine Zn ?_ _ | refine Zd ?_ | refine Za ?_ _)); exact BK0.out⟩, ⟨by repeat (first | (with_reducible first | exact HB.out | apply Zl | apply Zp | apply Ze | refine Zs ?_ GE0.out) | exact HB.out)⟩⟩
    case round =>
     clear H'
     try clear c1
     try clear p2
     try clear c4
     try clear c5
     try clear c6
     try clear c7
     try clear c19
     try clear hcz10_0
     try clear hcz10_1
     try clear hcz10_2
     try clear hcz10_3
     try clear hcz10_4
     try clear hcz10_5
     try clear hcz10_6
     try clear hcz10_7
     try clear hcz10_8
     try clear hcz12_0
     try clear hcz12_1
     try clear hcz12_2
     try clear hcz12_3
     try clear hcz12_4
     try clear hcz12_5
     try clear hcz12_6
     try clear hcz12_7
     try clear hcz12_8
     try clear hcz13_0
     try clear hcz13_1
     try clear hcz13_2
     try clear hcz13_3
     try clear hcz13_4
     try clear hcz13_5
     try clear hcz13_6
     try clear hcz13_7
     try clear hcz13_8
     try clear hcz15_0
     try clear hcz15_1
     try clear hcz15_2
     try clear hcz15_3
     try clear hcz15_4
     try clear hcz15_5
     try clear hcz15_6
     try clear hcz15_7
     try clear hcz15_8
     try clear hcz17_0
     try clear hcz17_1
     try clear hcz17_2
     try clear hcz17_3
     try clear hcz17_4
     try clear hcz17_5
     try clear hcz17_6
     try clear hcz17_7
     try clear hcz17_8
     try clear hcz8_0
     try clear hcz8_1
     try clear hcz8_2
     try clear hcz8_3
     try clear hcz8_4
     try clear hcz8_5
     try clear hcz8_6
     try clear hcz8_7
     try clear hcz8_8
     try clear hfz10_0
     try clear hfz10_1
     try clear hfz10_2
     try clear hfz10_3
     try clear hfz10_4
     try clear hfz10_5
     try clear hfz10_6
     try clear hfz10_7
     try clear hfz10_8
     try clear hfz12_0
     try clear hfz12_1
     try clear hfz12_2
     try clear hfz12_3
     try clear hfz12_4
     try clear hfz12_5
     try clear hfz12_6
     try clear hfz12_7
     try clear hfz12_8
     try clear hfz13_0
     try clear hfz13_1
     try clear hfz13_2
     try clear hfz13_3
     try clear hfz13_4
     try clear hfz13_5
     try clear hfz13_6
     try clear hfz13_7
     try clear hfz13_8
     try clear hfz15_0
     try clear hfz15_1
     try clear hfz15_2
     try clear hfz15_3
     try clear hfz15_4
     try clear hfz15_5
     try clear hfz15_6
     try clear hfz15_7
     try clear hfz15_8
     try clear hfz17_0
     try clear hfz17_1
     try clear hfz17_2
     try clear hfz17_3
     try clear hfz17_4
     try clear hfz17_5
     try clear hfz17_6
     try clear hfz17_7
     try clear hfz17_8
     try clear hfz8_0
     try clear hfz8_1
     try clear hfz8_2
     try clear hfz8_3
     try clear hfz8_4
     try clear hfz8_5
     try clear hfz8_6
     try clear hfz8_7
     try clear hfz8_8
     try clear p2
     obtain ⟨x5_2, rfl, HA, HK2, HO_3, HO_4, BK0, HB⟩ := hrel
     cases gk with
     | zero => exact absurd HA.out (by simp [spec_l04Is.l0])
     | succ k2 =>
      have H := HA.out
      clear HA
      simp only [spec_l04Is.l0] at H
      by_cases c24 : x5_2 < 4
      ·rw [if_pos c24] at H
       have c24b0 : decide (x5_2 < 4) = true := decide_eq_true c24
       clear c24
       by_cases c25 : 0 ≤ x5_2
       ·rw [if_pos c25] at H
        have c25b0 : decide (0 ≤ x5_2) = true := decide_eq_true c25
        clear c25
        by_cases c26 : x5_2 < (t116.length : Int)
        ·rw [if_pos c26] at H
         have c26b0 : decide (x5_2 < (t116.length : Int)) = true := decide_eq_true c26
         clear c26
         by_cases c27 : (rd t116 x5_2) < 0
         ·rw [if_pos c27] at H
          have c27b0 : decide ((rd t116 x5_2) < 0) = true := decide_eq_true c27
          clear c27
          obtain rfl := Option.some.inj H
          obtain ⟨Ao28, co28, eo28⟩ := Kd.R_slice HO_3.out
          subst eo28
          have p122 : 0 ≤ (x5_2 : Int) := of_decide_eq_true (by first | (with_reducible assumption) | assumption)
          have q122 : x5_2 < (t116.length : Int) := of_decide_eq_true (by first | (with_reducible assumption) | assumption)
          obtain ⟨ad122, e122, hx122_0⟩ := Kd.at_int (Kd.R_reads' HO_3.out).2.2 x5_2 p122 q122
          cases e122
          replace p122 := eq_true p122
          replace q122 := eq_true q122
          go_wp2
          go_ret
          exact ⟨by first | rfl | (simp [errW_none, errW_some] <;> rfl) | (simp [*, errW_none, errW_some] <;> rfl), by repeat (first | (with_reducible first | exact HB.out | apply Zl | apply Zp | apply Ze | refine Zs ?_ GE0.out) | exact HB.out)⟩
         ·rw [if_neg c27] at H
          have c27b0 : decide ((rd t116 x5_2) < 0) = false := decide_eq_false c27
          clear c27
          by_cases c29 : x5_2 < (t119.length : Int)
          ·rw [if_pos c29] at H
           have c29b0 : decide (x5_2 < (t119.length : Int)) = true := decide_eq_true c29
           clear c29
           replace H := Option.bind_eq_some_iff.mp H
           obtain ⟨t124, A300, H⟩ := H
           replace H : (if t124 = true then (spec_l04Is.l0 k2 t116 t119 (wrap64 (x5_2 + 1))) else (some false)) = some r := H
           have A30 := Zm A300
           clear A300
           by_cases c31 : t124 = true
           ·subst c31
            have H1 : (spec_l04Is.l0 k2 t116 t119 (wrap64 (x5_2 + 1))) = some r := by rw [if_pos rfl] at H; exact H
            clear H
            have H := H1
            clear H1
            have H' := Zm H
            clear H
            obtain ⟨Ao32, co32, eo32⟩ := Kd.R_slice HO_3.out
            subst eo32
            have p122 : 0 ≤ (x5_2 : Int) := of_decide_eq_true (by first | (with_reducible assumption) | assumption)
            have q122 : x5_2 < (t116.length : Int) := of_decide_eq_true (by first | (with_reducible assumption) | assumption)
            obtain ⟨ad122, e122, hx122_0⟩ := Kd.at_int (Kd.R_reads' HO_3.out).2.2 x5_2 p122 q122
            cases e122
            replace p122 := eq_true p122
            replace q122 := eq_true q122
            obtain ⟨Ao33, co33, eo33⟩ := Kd.R_slice HO_4.out
            subst eo33
            have p123 : 0 ≤ (x5_2 : Int) := of_decide_eq_true (by first | (with_reducible assumption) | assumption)
            have q123 : x5_2 < (t119.length : Int) := of_decide_eq_true (by first | (with_reducible assumption) | assumption)
            obtain ⟨ad123, e123, hx123_0⟩ := Kd.at_int (Kd.R_reads' HO_4.out).2.2 x5_2 p123 q123
            cases e123
            replace p123 := eq_true p123
            replace q123 := eq_true q123
            go_wp2_with (first | (go_at_call 53; (with_reducible refine (spec_l00In.calls (rd t119 x5_2) 0 2400 true _ A30.out).mono ?_); rintro e w' ⟨rfl, ⟨nd, rfl⟩⟩))
            go_roundg k2
            case measure => have := HJ1.out; have := HK2.out; omega
            case rel => exact ⟨(wrap64 (x5_2 + 1)), (by first | rfl | (simp; done) | (simp [*]; done)), H', ⟨by have := HJ1.out; have := HK2.out; omega⟩, ⟨by (with_reducible repeat (first | apply Kd.R_alloc | apply Kd.R_drewN | apply Kd.R_drew)); exact HO_3.out⟩, ⟨by (with_reducible repeat (first | apply Kd.R_alloc | apply Kd.R_drewN | apply Kd.R_drew)); exact HO_4.out⟩, ⟨by (with_reducible repeat (first | refine Zn ?_ _ | refine Zd ?_ | refine Za ?_ _)); exact BK0.out⟩, ⟨by repeat (first | (with_reducible first | exact HB.out | apply Zl | apply Zp | apply Ze | refine Zs ?_ GE0.out) | exact HB.out)⟩⟩
           ·replace c31 := Bool.eq_false_iff.mpr c31
            subst c31
            have H1 : (some false) = some r := by rw [if_neg (show ¬ (false = true) by decide)] at H; exact H
            clear H
            have H := H1
            clear H1
            obtain rfl := Option.some.inj H
            obtain ⟨Ao34, co34, eo34⟩ := Kd.R_slice HO_3.out
            subst eo34
            have p122 : 0 ≤ (x5_2 : Int) := of_decide_eq_true (by first | (with_reducible assumption) | assumption)
            have q122 : x5_2 < (t116.length : Int) := of_decide_eq_true (by first | (with_reducible assumption) | assumption)
            obtain ⟨ad122, e122, hx122_0⟩ := Kd.at_int (Kd.R_reads' HO_3.out).2.2 x5_2 p122 q122
            cases e122
            replace p122 := eq_true p122
            replace q122 := eq_true q122
            obtain ⟨Ao35, co35, eo35⟩ := Kd.R_slice HO_4.out
            subst eo35
            have p123 : 0 ≤ (x5_2 : Int) := of_decide_eq_true (by first | (with_reducible assumption) | assumption)
            have q123 : x5_2 < (t119.length : Int) := of_decide_eq_true (by first | (with_reducible assumption) | assumption)
            obtain ⟨ad123, e123, hx123_0⟩ := Kd.at_int (Kd.R_reads' HO_4.out).2.2 x5_2 p123 q123
            cases e123
            replace p123 := eq_true p123
            replace q123 := eq_true q123
            go_wp2_with (first | (go_at_call 53; (with_reducible refine (spec_l00In.calls (rd t119 x5_2) 0 2400 false _ A30.out).mono ?_); rintro e w' ⟨rfl, ⟨nd, rfl⟩⟩))
            go_ret
            exact ⟨by first | rfl | (simp [errW_none, errW_some] <;> rfl) | (simp [*, errW_none, errW_some] <;> rfl), by repeat (first | (with_reducible first | exact HB.out | apply Zl | apply Zp | apply Ze | refine Zs ?_ GE0.out) | exact HB.out)⟩
          ·rw [if_neg c29] at H
           exact absurd H (by simp)
        ·rw [if_neg c26] at H
         exact absurd H (by simp)
       ·rw [if_neg c25] at H
        exact absurd H (by simp)
      ·rw [if_neg c24] at H
       have c24b0 : decide (x5_2 < 4) = false := decide_eq_false c24
       clear c24
       obtain rfl := Option.some.inj H
       go_wp2
       go_ret
       exact ⟨by first | rfl | (simp [errW_none, errW_some] <;> rfl) | (simp [*, errW_none, errW_some] <;> rfl), by repeat (first | (with_reducible first | exact HB.out | apply Zl | apply Zp | apply Ze | refine Zs ?_ GE0.out) | exact HB.out)⟩

/-! ### impl_offset: function 71 -/
def impl_offset.f (a0 : Int) (a1 : Int) (a2 : Int) : Option (Int) := some (wrap64 ((wrap64 (a0 - a1)) + (wrap64 (2 * a2))))
set_option maxHeartbeats 8000000 in
set_option maxRecDepth 100000 in
theorem impl_offset.calls (a0 : Int) (a1 : Int) (a2 : Int) (r : Int) (w : World) (h : impl_offset.f a0 a1 a2 = some r) :
  Calls Try.prog 71 #[.int .i64 a0, .int .i64 a1, .int .i64 a2] w fun e w' => e = .returned (.int .i64 r) ∧ Drawn0 w w' := by
 have H : (some (wrap64 ((wrap64 (a0 - a1)) + (wrap64 (2 * a2))))) = some r := h
 clear h
 obtain rfl := Option.some.inj H
 go_enter Try.func71, Try.ntmps71
 go_wp2
 go_ret
 exact ⟨by first | rfl | (simp; done) | (simp [*]; done), by repeat (first | exact Drawn0.refl _ | apply Drawn0.step)⟩

/-! ### impl_Machine_gaps: function 44 -/
def impl_Machine_gaps.f (a0_0 : Int) (a0_1 : Int) (a0_2 : Int) (a0_3 : Int) (a0_4 : Int) (a0_5 : Int) (a0_6 : Int) (a0_7 : Int) (a0_8 : Int) : Option (List Int) := (impl_offset.f a0_4 a0_0 a0_2).bind fun t214 => ((impl_offset.f a0_5 a0_1 a0_3).bind fun t215 => (some (([wrap64 (40 - t214), wrap64 (40 - t215), wrap64 (40 + t214), wrap64 (40 + t215)] : List Int))))
set_option maxHeartbeats 8000000 in
set_option maxRecDepth 100000 in
theorem impl_Machine_gaps.calls (a0_0 : Int) (a0_1 : Int) (a0_2 : Int) (a0_3 : Int) (a0_4 : Int) (a0_5 : Int) (a0_6 : Int) (a0_7 : Int) (a0_8 : Int) (r : List Int) (w : World) (h : impl_Machine_gaps.f a0_0 a0_1 a0_2 a0_3 a0_4 a0_5 a0_6 a0_7 a0_8 = some r) :
  Calls Try.prog 44 #[.agg #[.int .i64 a0_0, .int .i64 a0_1, .int .i64 a0_2, .int .i64 a0_3, .int .i64 a0_4, .int .i64 a0_5, .int .i64 a0_6, .int .i64 a0_7, .int .i64 a0_8]] w fun e w' => ∃ v0_ : Value, e = .returned (v0_) ∧ Kd.R (Kd.int .i64) 2 w' w.heap.size (fun _ => True) v0_ r ∧ Below w.heap.size w w' := by
 have hu27 := Try.underlying27
 have HB := Zm (Below.refl w.heap.size w)
 have H : ((impl_offset.f a0_4 a0_0 a0_2).bind fun t214 => ((impl_offset.f a0_5 a0_1 a0_3).bind fun t215 => (some (([wrap64 (40 - t214), wrap64 (40 - t215), wrap64 (40 + t214), wrap64 (40 + t215)] : List Int))))) = some r := h
 clear h
 replace H := Option.bind_eq_some_iff.mp H
 obtain ⟨t214, A20, H⟩ := H
 replace H : ((impl_offset.f a0_5 a0_1 a0_3).bind fun t215 => (some (([wrap64 (40 - t214), wrap64 (40 - t215), wrap64 (40 + t214), wrap64 (40 + t215)] : List Int)))) = some r := H
 have A2 := Zm A20
 clear A20
 replace H := Option.bind_eq_some_iff.mp H
 obtain ⟨t215, A30, H⟩ := H
 replace H : (some (([wrap64 (40 - t214), wrap64 (40 - t215), wrap64 (40 + t214), wrap64 (40 + t215)] : List Int))) = some r := H
 have A3 := Zm A30
 clear A30
 obtain ⟨y216, hy216⟩ : ∃ y_ : List Int, y_ = (([wrap64 (40 - t214), wrap64 (40 - t215), wrap64 (40 + t214), wrap64 (40 + t215)] : List Int)) := ⟨_, rfl⟩
 replace H : (some y216) = some r := by first | (rw [hy216]; with_reducible exact H) | (have H2_ := (Option.bind_some _ _).symm.trans H; rw [hy216]; with_reducible exact H2_) | (have H2_ := (Option.bind_some _ _).symm.trans H; with_reducible exact H2_) | with_reducible exact H | (rw [hy216]; exact H) | exact H
 have Ny216 := Zm hy216
 clear hy216
 obtain rfl := Option.some.inj H
 go_enter Try.func44, Try.ntmps44
 go_wp2_with (first | ((with_reducible refine gate_dst (N := 1) rfl ?_); refine box_event ?hg (N := 1) ?hd (cs := #[.int .i64 a0_0, .int .i64 a0_1, .int .i64 a0_2, .int .i64 a0_3, .int .i64 a0_4, .int .i64 a0_5, .int .i64 a0_6, .int .i64 a0_7, .int .i64 a0_8]) (t := 27) ?hr ?_; (case hd => rfl); (case hg => rfl); (case hr => first | (go_simp; done) | (go_simp; rfl)); intro gb213 hg w4 hbox hb; have n0_ := Zm (below_step (by repeat (first | (with_reducible first | exact HB.out | apply Zl | apply Zp | apply Ze) | exact HB.out)) hb); have n1_ := Zm (hbox); have n2_ := Zm ((by rw [hg]; exact (below_size (by repeat (first | (with_reducible first | exact HB.out | apply Zl | apply Zp | apply Ze) | exact HB.out))) : w.heap.size ≤ gb213)); have n3_ := Zm ((by rw [hg]; exact (below_size (by repeat (first | (with_reducible first | exact HB.out | apply Zl | apply Zp | apply Ze) | exact HB.out))) : w.heap.size ≤ gb213)); clear HB; have HB := n0_; have BK213 := n1_; have GW213 := n2_; have GE213 := n3_; clear n0_ n1_ n2_ n3_; clear hb hbox hg; have hcz5_0 : w4.cell? ⟨gb213, 0, none⟩ = some (.int .i64 a0_0) := (Zc BK213.out 0).trans rfl; have hcz5_1 : w4.cell? ⟨gb213, 1, none⟩ = some (.int .i64 a0_1) := (Zc BK213.out 1).trans rfl; have hcz5_2 : w4.cell? ⟨gb213, 2, none⟩ = some (.int .i64 a0_2) := (Zc BK213.out 2).trans rfl; have hcz5_3 : w4.cell? ⟨gb213, 3, none⟩ = some (.int .i64 a0_3) := (Zc BK213.out 3).trans rfl; have hcz5_4 : w4.cell? ⟨gb213, 4, none⟩ = some (.int .i64 a0_4) := (Zc BK213.out 4).trans rfl; have hcz5_5 : w4.cell? ⟨gb213, 5, none⟩ = some (.int .i64 a0_5) := (Zc BK213.out 5).trans rfl; have hcz5_6 : w4.cell? ⟨gb213, 6, none⟩ = some (.int .i64 a0_6) := (Zc BK213.out 6).trans rfl; have hcz5_7 : w4.cell? ⟨gb213, 7, none⟩ = some (.int .i64 a0_7) := (Zc BK213.out 7).trans rfl; have hcz5_8 : w4.cell? ⟨gb213, 8, none⟩ = some (.int .i64 a0_8) := (Zc BK213.out 8).trans rfl; have hfz5_0 := Zf BK213.out 0; have hfz5_1 := Zf BK213.out 1; have hfz5_2 := Zf BK213.out 2; have hfz5_3 := Zf BK213.out 3; have hfz5_4 := Zf BK213.out 4; have hfz5_5 := Zf BK213.out 5; have hfz5_6 := Zf BK213.out 6; have hfz5_7 := Zf BK213.out 7; have hfz5_8 := Zf BK213.out 8) | ((with_reducible refine gate_callee (f := 71) rfl ?_); refine goesL_ (some 14) rfl rfl Try.func71 (by kernel_rfl) rfl #[.int .i64 a0_4, .int .i64 a0_0, .int .i64 a0_2] rfl (by (try simp only [List.map_toArray, List.map_cons, List.map_nil]); first | done | rfl | (simp only [List.length_drop, List.length_take]; rfl)) ?_; (with_reducible refine (impl_offset.calls a0_4 a0_0 a0_2 t214 _ A2.out).mono ?_); rintro e w' ⟨rfl, ⟨nd, rfl⟩⟩; refine ⟨_, rfl, ?_⟩) | ((with_reducible refine gate_callee (f := 71) rfl ?_); refine goesL_ (some 24) rfl rfl Try.func71 (by kernel_rfl) rfl #[.int .i64 a0_5, .int .i64 a0_1, .int .i64 a0_3] rfl (by (try simp only [List.map_toArray, List.map_cons, List.map_nil]); first | done | rfl | (simp only [List.length_drop, List.length_take]; rfl)) ?_; (with_reducible refine (impl_offset.calls a0_5 a0_1 a0_3 t215 _ A3.out).mono ?_); rintro e w' ⟨rfl, ⟨nd, rfl⟩⟩; refine ⟨_, rfl, ?_⟩) | ((with_reducible refine gate_dst (N := 33) rfl ?_); refine Kd.R_lit (Kd.int .i64) _ 2 ?hg (N := 33) ?hd (xs := ([wrap64 (40 - t214), wrap64 (40 - t215), wrap64 (40 + t214), wrap64 (40 + t215)] : List Int)) (inner := [.int .i64 (wrap64 (40 - t214)), .int .i64 (wrap64 (40 - t215)), .int .i64 (wrap64 (40 + t214)), .int .i64 (wrap64 (40 + t215))]) (ok := fun _ => True) (okp := fun _ => True) ?hr ?hp (fun _ hk => hk) trivial (Below.refl _ _) (Nat.le_refl _) (by simp) ?_; (case hd => rfl); (case hg => rfl); (case hr => first | (go_simp; done) | (go_simp; rfl)); (case hp => exact (Reps.one (show Kd.M (Kd.int .i64) _ _ _ (wrap64 (40 - t214)) [.int .i64 (wrap64 (40 - t214))] from rfl) (Reps.one (show Kd.M (Kd.int .i64) _ _ _ (wrap64 (40 - t215)) [.int .i64 (wrap64 (40 - t215))] from rfl) (Reps.one (show Kd.M (Kd.int .i64) _ _ _ (wrap64 (40 + t214)) [.int .i64 (wrap64 (40 + t214))] from rfl) (Reps.one (show Kd.M (Kd.int .i64) _ _ _ (wrap64 (40 + t215)) [.int .i64 (wrap64 (40 + t215))] from rfl) (Reps.none _ _)))))); intro v217 w6 ho7 hb hg_ hnew_; clear hg_ hnew_; (first | rw [← Ny216.out] at ho7 | (simp only [Int.reduceToNat] at ho7; rw [← Ny216.out] at ho7)); have n0_ := Zm (Kd.R_lower ho7 (below_size (by repeat (first | (with_reducible first | exact HB.out | apply Zl | apply Zp | apply Ze | refine Zs ?_ GE213.out) | exact HB.out)))); have n1_ := Zm (blk_below (g := gb213) (o := .cells #[.int .i64 a0_0, .int .i64 a0_1, .int .i64 a0_2, .int .i64 a0_3, .int .i64 a0_4, .int .i64 a0_5, .int .i64 a0_6, .int .i64 a0_7, .int .i64 a0_8] 27 (0, 0)) (by (with_reducible repeat (first | refine Zn ?_ _ | refine Zd ?_ | refine Za ?_ _)); exact BK213.out) hb); have n2_ := Zm (below_step (by repeat (first | (with_reducible first | exact HB.out | apply Zl | apply Zp | apply Ze | refine Zs ?_ GE213.out) | exact HB.out)) hb); clear BK213; clear HB; have HO218 := n0_; have BK213 := n1_; have HB := n2_; clear n0_ n1_ n2_; clear hb ho7))
 go_ret
 exact ⟨_, by first | rfl | (simp [errW_none, errW_some] <;> rfl) | (simp [*, errW_none, errW_some] <;> rfl), by (with_reducible repeat (first | apply Kd.R_alloc | apply Kd.R_drewN | apply Kd.R_drew)); exact HO218.out, by repeat (first | (with_reducible first | exact HB.out | apply Zl | apply Zp | apply Ze | refine Zs ?_ GE213.out) | exact HB.out)⟩

/-! ### impl_Machine_strokes: function 45 -/
def impl_Machine_strokes.f (a0_0 : Int) (a0_1 : Int) (a0_2 : Int) (a0_3 : Int) (a0_4 : Int) (a0_5 : Int) (a0_6 : Int) (a0_7 : Int) (a0_8 : Int) : Option (List Int) := some (([wrap64 (a0_8 - (wrap64 (2 * (wrap64 (a0_2 - a0_6))))), wrap64 (a0_8 - (wrap64 (2 * (wrap64 (a0_3 - a0_7))))), wrap64 (a0_8 + (wrap64 (2 * (wrap64 (a0_2 - a0_6))))), wrap64 (a0_8 + (wrap64 (2 * (wrap64 (a0_3 - a0_7)))))] : List Int))
set_option maxHeartbeats 8000000 in
set_option maxRecDepth 100000 in
theorem impl_Machine_strokes.calls (a0_0 : Int) (a0_1 : Int) (a0_2 : Int) (a0_3 : Int) (a0_4 : Int) (a0_5 : Int) (a0_6 : Int) (a0_7 : Int) (a0_8 : Int) (r : List Int) (w : World) (h : impl_Machine_strokes.f a0_0 a0_1 a0_2 a0_3 a0_4 a0_5 a0_6 a0_7 a0_8 = some r) :
  Calls Try.prog 45 #[.agg #[.int .i64 a0_0, .int .i64 a0_1, .int .i64 a0_2, .int .i64 a0_3, .int .i64 a0_4, .int .i64 a0_5, .int .i64 a0_6, .int .i64 a0_7, .int .i64 a0_8]] w fun e w' => ∃ v0_ : Value, e = .returned (v0_) ∧ Kd.R (Kd.int .i64) 2 w' w.heap.size (fun _ => True) v0_ r ∧ Below w.heap.size w w' := by
 have hu27 := Try.underlying27
 have HB := Zm (Below.refl w.heap.size w)
 have H : (some (([wrap64 (a0_8 - (wrap64 (2 * (wrap64 (a0_2 - a0_6))))), wrap64 (a0_8 - (wrap64 (2 * (wrap64 (a0_3 - a0_7))))), wrap64 (a0_8 + (wrap64 (2 * (wrap64 (a0_2 - a0_6))))), wrap64 (a0_8 + (wrap64 (2 * (wrap64 (a0_3 - a0_7)))))] : List Int))) = some r := h
 clear h
 obtain ⟨y220, hy220⟩ : ∃ y_ : List Int, y_ = (([wrap64 (a0_8 - (wrap64 (2 * (wrap64 (a0_2 - a0_6))))), wrap64 (a0_8 - (wrap64 (2 * (wrap64 (a0_3 - a0_7))))), wrap64 (a0_8 + (wrap64 (2 * (wrap64 (a0_2 - a0_6))))), wrap64 (a0_8 + (wrap64 (2 * (wrap64 (a0_3 - a0_7)))))] : List Int)) := ⟨_, rfl⟩
 replace H : (some y220) = some r := by first | (rw [hy220]; with_reducible exact H) | (have H2_ := (Option.bind_some _ _).symm.trans H; rw [hy220]; with_reducible exact H2_) | (have H2_ := (Option.bind_some _ _).symm.trans H; with_reducible exact H2_) | with_reducible exact H | (rw [hy220]; exact H) | exact H
 have Ny220 := Zm hy220
 clear hy220
 obtain rfl := Option.some.inj H
 go_enter Try.func45, Try.ntmps45
 go_wp2_with (first | ((with_reducible refine gate_dst (N := 1) rfl ?_); refine box_event ?hg (N := 1) ?hd (cs := #[.int .i64 a0_0, .int .i64 a0_1, .int .i64 a0_2, .int .i64 a0_3, .int .i64 a0_4, .int .i64 a0_5, .int .i64 a0_6, .int .i64 a0_7, .int .i64 a0_8]) (t := 27) ?hr ?_; (case hd => rfl); (case hg => rfl); (case hr => first | (go_simp; done) | (go_simp; rfl)); intro gb219 hg w2 hbox hb; have n0_ := Zm (below_step (by repeat (first | (with_reducible first | exact HB.out | apply Zl | apply Zp | apply Ze) | exact HB.out)) hb); have n1_ := Zm (hbox); have n2_ := Zm ((by rw [hg]; exact (below_size (by repeat (first | (with_reducible first | exact HB.out | apply Zl | apply Zp | apply Ze) | exact HB.out))) : w.heap.size ≤ gb219)); have n3_ := Zm ((by rw [hg]; exact (below_size (by repeat (first | (with_reducible first | exact HB.out | apply Zl | apply Zp | apply Ze) | exact HB.out))) : w.heap.size ≤ gb219)); clear HB; have HB := n0_; have BK219 := n1_; have GW219 := n2_; have GE219 := n3_; clear n0_ n1_ n2_ n3_; clear hb hbox hg; have hcz3_0 : w2.cell? ⟨gb219, 0, none⟩ = some (.int .i64 a0_0) := (Zc BK219.out 0).trans rfl; have hcz3_1 : w2.cell? ⟨gb219, 1, none⟩ = some (.int .i64 a0_1) := (Zc BK219.out 1).trans rfl; have hcz3_2 : w2.cell? ⟨gb219, 2, none⟩ = some (.int .i64 a0_2) := (Zc BK219.out 2).trans rfl; have hcz3_3 : w2.cell? ⟨gb219, 3, none⟩ = some (.int .i64 a0_3) := (Zc BK219.out 3).trans rfl; have hcz3_4 : w2.cell? ⟨gb219, 4, none⟩ = some (.int .i64 a0_4) := (Zc BK219.out 4).trans rfl; have hcz3_5 : w2.cell? ⟨gb219, 5, none⟩ = some (.int .i64 a0_5) := (Zc BK219.out 5).trans rfl; have hcz3_6 : w2.cell? ⟨gb219, 6, none⟩ = some (.int .i64 a0_6) := (Zc BK219.out 6).trans rfl; have hcz3_7 : w2.cell? ⟨gb219, 7, none⟩ = some (.int .i64 a0_7) := (Zc BK219.out 7).trans rfl; have hcz3_8 : w2.cell? ⟨gb219, 8, none⟩ = some (.int .i64 a0_8) := (Zc BK219.out 8).trans rfl; have hfz3_0 := Zf BK219.out 0; have hfz3_1 := Zf BK219.out 1; have hfz3_2 := Zf BK219.out 2; have hfz3_3 := Zf BK219.out 3; have hfz3_4 := Zf BK219.out 4; have hfz3_5 := Zf BK219.out 5; have hfz3_6 := Zf BK219.out 6; have hfz3_7 := Zf BK219.out 7; have hfz3_8 := Zf BK219.out 8) | ((with_reducible refine gate_dst (N := 37) rfl ?_); refine Kd.R_lit (Kd.int .i64) _ 2 ?hg (N := 37) ?hd (xs := ([wrap64 (a0_8 - (wrap64 (2 * (wrap64 (a0_2 - a0_6))))), wrap64 (a0_8 - (wrap64 (2 * (wrap64 (a0_3 - a0_7))))), wrap64 (a0_8 + (wrap64 (2 * (wrap64 (a0_2 - a0_6))))), wrap64 (a0_8 + (wrap64 (2 * (wrap64 (a0_3 - a0_7)))))] : List Int)) (inner := [.int .i64 (wrap64 (a0_8 - (wrap64 (2 * (wrap64 (a0_2 - a0_6)))))), .int .i64 (wrap64 (a0_8 - (wrap64 (2 * (wrap64 (a0_3 - a0_7)))))), .int .i64 (wrap64 (a0_8 + (wrap64 (2 * (wrap64 (a0_2 - a0_6)))))), .int .i64 (wrap64 (a0_8 + (wrap64 (2 * (wrap64 (a0_3 - a0_7))))))]) (ok := fun _ => True) (okp := fun _ => True) ?hr ?hp (fun _ hk => hk) trivial (Below.refl _ _) (Nat.le_refl _) (by simp) ?_; (case hd => rfl); (case hg => rfl); (case hr => first | (go_simp; done) | (go_simp; rfl)); (case hp => exact (Reps.one (show Kd.M (Kd.int .i64) _ _ _ (wrap64 (a0_8 - (wrap64 (2 * (wrap64 (a0_2 - a0_6)))))) [.int .i64 (wrap64 (a0_8 - (wrap64 (2 * (wrap64 (a0_2 - a0_6))))))] from rfl) (Reps.one (show Kd.M (Kd.int .i64) _ _ _ (wrap64 (a0_8 - (wrap64 (2 * (wrap64 (a0_3 - a0_7)))))) [.int .i64 (wrap64 (a0_8 - (wrap64 (2 * (wrap64 (a0_3 - a0_7))))))] from rfl) (Reps.one (show Kd.M (Kd.int .i64) _ _ _ (wrap64 (a0_8 + (wrap64 (2 * (wrap64 (a0_2 - a0_6)))))) [.int .i64 (wrap64 (a0_8 + (wrap64 (2 * (wrap64 (a0_2 - a0_6))))))] from rfl) (Reps.one (show Kd.M (Kd.int .i64) _ _ _ (wrap64 (a0_8 + (wrap64 (2 * (wrap64 (a0_3 - a0_7)))))) [.int .i64 (wrap64 (a0_8 + (wrap64 (2 * (wrap64 (a0_3 - a0_7))))))] from rfl) (Reps.none _ _)))))); intro v221 w4 ho5 hb hg_ hnew_; clear hg_ hnew_; (first | rw [← Ny220.out] at ho5 | (simp only [Int.reduceToNat] at ho5; rw [← Ny220.out] at ho5)); have n0_ := Zm (Kd.R_lower ho5 (below_size (by repeat (first | (with_reducible first | exact HB.out | apply Zl | apply Zp | apply Ze | refine Zs ?_ GE219.out) | exact HB.out)))); have n1_ := Zm (blk_below (g := gb219) (o := .cells #[.int .i64 a0_0, .int .i64 a0_1, .int .i64 a0_2, .int .i64 a0_3, .int .i64 a0_4, .int .i64 a0_5, .int .i64 a0_6, .int .i64 a0_7, .int .i64 a0_8] 27 (0, 0)) (by (with_reducible repeat (first | refine Zn ?_ _ | refine Zd ?_ | refine Za ?_ _)); exact BK219.out) hb); have n2_ := Zm (below_step (by repeat (first | (with_reducible first | exact HB.out | apply Zl | apply Zp | apply Ze | refine Zs ?_ GE219.out) | exact HB.out)) hb); clear BK219; clear HB; have HO222 := n0_; have BK219 := n1_; have HB := n2_; clear n0_ n1_ n2_; clear hb ho5))
 repeat (go_quiet (first | ((with_reducible refine gate_dst (N := 1) rfl ?_); refine box_event ?hg (N := 1) ?hd (cs := #[.int .i64 a0_0, .int .i64 a0_1, .int .i64 a0_2, .int .i64 a0_3, .int .i64 a0_4, .int .i64 a0_5, .int .i64 a0_6, .int .i64 a0_7, .int .i64 a0_8]) (t := 27) ?hr ?_; (case hd => rfl); (case hg => rfl); (case hr => first | (go_simp; done) | (go_simp; rfl)); intro gb219 hg w2 hbox hb; have n0_ := Zm (below_step (by repeat (first | (with_reducible first | exact HB.out | apply Zl | apply Zp | apply Ze) | exact HB.out)) hb); have n1_ := Zm (hbox); have n2_ := Zm ((by rw [hg]; exact (below_size (by repeat (first | (with_reducible first | exact HB.out | apply Zl | apply Zp | apply Ze) | exact HB.out))) : w.heap.size ≤ gb219)); have n3_ := Zm ((by rw [hg]; exact (below_size (by repeat (first | (with_reducible first | exact HB.out | apply Zl | apply Zp | apply Ze) | exact HB.out))) : w.heap.size ≤ gb219)); clear HB; have HB := n0_; have BK219 := n1_; have GW219 := n2_; have GE219 := n3_; clear n0_ n1_ n2_ n3_; clear hb hbox hg; have hcz3_0 : w2.cell? ⟨gb219, 0, none⟩ = some (.int .i64 a0_0) := (Zc BK219.out 0).trans rfl; have hcz3_1 : w2.cell? ⟨gb219, 1, none⟩ = some (.int .i64 a0_1) := (Zc BK219.out 1).trans rfl; have hcz3_2 : w2.cell? ⟨gb219, 2, none⟩ = some (.int .i64 a0_2) := (Zc BK219.out 2).trans rfl; have hcz3_3 : w2.cell? ⟨gb219, 3, none⟩ = some (.int .i64 a0_3) := (Zc BK219.out 3).trans rfl; have hcz3_4 : w2.cell? ⟨gb219, 4, none⟩ = some (.int .i64 a0_4) := (Zc BK219.out 4).trans rfl; have hcz3_5 : w2.cell? ⟨gb219, 5, none⟩ = some (.int .i64 a0_5) := (Zc BK219.out 5).trans rfl; have hcz3_6 : w2.cell? ⟨gb219, 6, none⟩ = some (.int .i64 a0_6) := (Zc BK219.out 6).trans rfl; have hcz3_7 : w2.cell? ⟨gb219, 7, none⟩ = some (.int .i64 a0_7) := (Zc BK219.out 7).trans rfl; have hcz3_8 : w2.cell? ⟨gb219, 8, none⟩ = some (.int .i64 a0_8) := (Zc BK219.out 8).trans rfl; have hfz3_0 := Zf BK219.out 0; have hfz3_1 := Zf BK219.out 1; have hfz3_2 := Zf BK219.out 2; have hfz3_3 := Zf BK219.out 3; have hfz3_4 := Zf BK219.out 4; have hfz3_5 := Zf BK219.out 5; have hfz3_6 := Zf BK219.out 6; have hfz3_7 := Zf BK219.out 7; have hfz3_8 := Zf BK219.out 8) | ((with_reducible refine gate_dst (N := 37) rfl ?_); refine Kd.R_lit (Kd.int .i64) _ 2 ?hg (N := 37) ?hd (xs := ([wrap64 (a0_8 - (wrap64 (2 * (wrap64 (a0_2 - a0_6))))), wrap64 (a0_8 - (wrap64 (2 * (wrap64 (a0_3 - a0_7))))), wrap64 (a0_8 + (wrap64 (2 * (wrap64 (a0_2 - a0_6))))), wrap64 (a0_8 + (wrap64 (2 * (wrap64 (a0_3 - a0_7)))))] : List Int)) (inner := [.int .i64 (wrap64 (a0_8 - (wrap64 (2 * (wrap64 (a0_2 - a0_6)))))), .int .i64 (wrap64 (a0_8 - (wrap64 (2 * (wrap64 (a0_3 - a0_7)))))), .int .i64 (wrap64 (a0_8 + (wrap64 (2 * (wrap64 (a0_2 - a0_6)))))), .int .i64 (wrap64 (a0_8 + (wrap64 (2 * (wrap64 (a0_3 - a0_7))))))]) (ok := fun _ => True) (okp := fun _ => True) ?hr ?hp (fun _ hk => hk) trivial (Below.refl _ _) (Nat.le_refl _) (by simp) ?_; (case hd => rfl); (case hg => rfl); (case hr => first | (go_simp; done) | (go_simp; rfl)); (case hp => exact (Reps.one (show Kd.M (Kd.int .i64) _ _ _ (wrap64 (a0_8 - (wrap64 (2 * (wrap64 (a0_2 - a0_6)))))) [.int .i64 (wrap64 (a0_8 - (wrap64 (2 * (wrap64 (a0_2 - a0_6))))))] from rfl) (Reps.one (show Kd.M (Kd.int .i64) _ _ _ (wrap64 (a0_8 - (wrap64 (2 * (wrap64 (a0_3 - a0_7)))))) [.int .i64 (wrap64 (a0_8 - (wrap64 (2 * (wrap64 (a0_3 - a0_7))))))] from rfl) (Reps.one (show Kd.M (Kd.int .i64) _ _ _ (wrap64 (a0_8 + (wrap64 (2 * (wrap64 (a0_2 - a0_6)))))) [.int .i64 (wrap64 (a0_8 + (wrap64 (2 * (wrap64 (a0_2 - a0_6))))))] from rfl) (Reps.one (show Kd.M (Kd.int .i64) _ _ _ (wrap64 (a0_8 + (wrap64 (2 * (wrap64 (a0_3 - a0_7)))))) [.int .i64 (wrap64 (a0_8 + (wrap64 (2 * (wrap64 (a0_3 - a0_7))))))] from rfl) (Reps.none _ _)))))); intro v221 w4 ho5 hb hg_ hnew_; clear hg_ hnew_; (first | rw [← Ny220.out] at ho5 | (simp only [Int.reduceToNat] at ho5; rw [← Ny220.out] at ho5)); have n0_ := Zm (Kd.R_lower ho5 (below_size (by repeat (first | (with_reducible first | exact HB.out | apply Zl | apply Zp | apply Ze | refine Zs ?_ GE219.out) | exact HB.out)))); have n1_ := Zm (blk_below (g := gb219) (o := .cells #[.int .i64 a0_0, .int .i64 a0_1, .int .i64 a0_2, .int .i64 a0_3, .int .i64 a0_4, .int .i64 a0_5, .int .i64 a0_6, .int .i64 a0_7, .int .i64 a0_8] 27 (0, 0)) (by (with_reducible repeat (first | refine Zn ?_ _ | refine Zd ?_ | refine Za ?_ _)); exact BK219.out) hb); have n2_ := Zm (below_step (by repeat (first | (with_reducible first | exact HB.out | apply Zl | apply Zp | apply Ze | refine Zs ?_ GE219.out) | exact HB.out)) hb); clear BK219; clear HB; have HO222 := n0_; have BK219 := n1_; have HB := n2_; clear n0_ n1_ n2_; clear hb ho5)); try go_wp2_with (first | ((with_reducible refine gate_dst (N := 1) rfl ?_); refine box_event ?hg (N := 1) ?hd (cs := #[.int .i64 a0_0, .int .i64 a0_1, .int .i64 a0_2, .int .i64 a0_3, .int .i64 a0_4, .int .i64 a0_5, .int .i64 a0_6, .int .i64 a0_7, .int .i64 a0_8]) (t := 27) ?hr ?_; (case hd => rfl); (case hg => rfl); (case hr => first | (go_simp; done) | (go_simp; rfl)); intro gb219 hg w2 hbox hb; have n0_ := Zm (below_step (by repeat (first | (with_reducible first | exact HB.out | apply Zl | apply Zp | apply Ze) | exact HB.out)) hb); have n1_ := Zm (hbox); have n2_ := Zm ((by rw [hg]; exact (below_size (by repeat (first | (with_reducible first | exact HB.out | apply Zl | apply Zp | apply Ze) | exact HB.out))) : w.heap.size ≤ gb219)); have n3_ := Zm ((by rw [hg]; exact (below_size (by repeat (first | (with_reducible first | exact HB.out | apply Zl | apply Zp | apply Ze) | exact HB.out))) : w.heap.size ≤ gb219)); clear HB; have HB := n0_; have BK219 := n1_; have GW219 := n2_; have GE219 := n3_; clear n0_ n1_ n2_ n3_; clear hb hbox hg; have hcz3_0 : w2.cell? ⟨gb219, 0, none⟩ = some (.int .i64 a0_0) := (Zc BK219.out 0).trans rfl; have hcz3_1 : w2.cell? ⟨gb219, 1, none⟩ = some (.int .i64 a0_1) := (Zc BK219.out 1).trans rfl; have hcz3_2 : w2.cell? ⟨gb219, 2, none⟩ = some (.int .i64 a0_2) := (Zc BK219.out 2).trans rfl; have hcz3_3 : w2.cell? ⟨gb219, 3, none⟩ = some (.int .i64 a0_3) := (Zc BK219.out 3).trans rfl; have hcz3_4 : w2.cell? ⟨gb219, 4, none⟩ = some (.int .i64 a0_4) := (Zc BK219.out 4).trans rfl; have hcz3_5 : w2.cell? ⟨gb219, 5, none⟩ = some (.int .i64 a0_5) := (Zc BK219.out 5).trans rfl; have hcz3_6 : w2.cell? ⟨gb219, 6, none⟩ = some (.int .i64 a0_6) := (Zc BK219.out 6).trans rfl; have hcz3_7 : w2.cell? ⟨gb219, 7, none⟩ = some (.int .i64 a0_7) := (Zc BK219.out 7).trans rfl; have hcz3_8 : w2.cell? ⟨gb219, 8, none⟩ = some (.int .i64 a0_8) := (Zc BK219.out 8).trans rfl; have hfz3_0 := Zf BK219.out 0; have hfz3_1 := Zf BK219.out 1; have hfz3_2 := Zf BK219.out 2; have hfz3_3 := Zf BK219.out 3; have hfz3_4 := Zf BK219.out 4; have hfz3_5 := Zf BK219.out 5; have hfz3_6 := Zf BK219.out 6; have hfz3_7 := Zf BK219.out 7; have hfz3_8 := Zf BK219.out 8) | ((with_reducible refine gate_dst (N := 37) rfl ?_); refine Kd.R_lit (Kd.int .i64) _ 2 ?hg (N := 37) ?hd (xs := ([wrap64 (a0_8 - (wrap64 (2 * (wrap64 (a0_2 - a0_6))))), wrap64 (a0_8 - (wrap64 (2 * (wrap64 (a0_3 - a0_7))))), wrap64 (a0_8 + (wrap64 (2 * (wrap64 (a0_2 - a0_6))))), wrap64 (a0_8 + (wrap64 (2 * (wrap64 (a0_3 - a0_7)))))] : List Int)) (inner := [.int .i64 (wrap64 (a0_8 - (wrap64 (2 * (wrap64 (a0_2 - a0_6)))))), .int .i64 (wrap64 (a0_8 - (wrap64 (2 * (wrap64 (a0_3 - a0_7)))))), .int .i64 (wrap64 (a0_8 + (wrap64 (2 * (wrap64 (a0_2 - a0_6)))))), .int .i64 (wrap64 (a0_8 + (wrap64 (2 * (wrap64 (a0_3 - a0_7))))))]) (ok := fun _ => True) (okp := fun _ => True) ?hr ?hp (fun _ hk => hk) trivial (Below.refl _ _) (Nat.le_refl _) (by simp) ?_; (case hd => rfl); (case hg => rfl); (case hr => first | (go_simp; done) | (go_simp; rfl)); (case hp => exact (Reps.one (show Kd.M (Kd.int .i64) _ _ _ (wrap64 (a0_8 - (wrap64 (2 * (wrap64 (a0_2 - a0_6)))))) [.int .i64 (wrap64 (a0_8 - (wrap64 (2 * (wrap64 (a0_2 - a0_6))))))] from rfl) (Reps.one (show Kd.M (Kd.int .i64) _ _ _ (wrap64 (a0_8 - (wrap64 (2 * (wrap64 (a0_3 - a0_7)))))) [.int .i64 (wrap64 (a0_8 - (wrap64 (2 * (wrap64 (a0_3 - a0_7))))))] from rfl) (Reps.one (show Kd.M (Kd.int .i64) _ _ _ (wrap64 (a0_8 + (wrap64 (2 * (wrap64 (a0_2 - a0_6)))))) [.int .i64 (wrap64 (a0_8 + (wrap64 (2 * (wrap64 (a0_2 - a0_6))))))] from rfl) (Reps.one (show Kd.M (Kd.int .i64) _ _ _ (wrap64 (a0_8 + (wrap64 (2 * (wrap64 (a0_3 - a0_7)))))) [.int .i64 (wrap64 (a0_8 + (wrap64 (2 * (wrap64 (a0_3 - a0_7))))))] from rfl) (Reps.none _ _)))))); intro v221 w4 ho5 hb hg_ hnew_; clear hg_ hnew_; (first | rw [← Ny220.out] at ho5 | (simp only [Int.reduceToNat] at ho5; rw [← Ny220.out] at ho5)); have n0_ := Zm (Kd.R_lower ho5 (below_size (by repeat (first | (with_reducible first | exact HB.out | apply Zl | apply Zp | apply Ze | refine Zs ?_ GE219.out) | exact HB.out)))); have n1_ := Zm (blk_below (g := gb219) (o := .cells #[.int .i64 a0_0, .int .i64 a0_1, .int .i64 a0_2, .int .i64 a0_3, .int .i64 a0_4, .int .i64 a0_5, .int .i64 a0_6, .int .i64 a0_7, .int .i64 a0_8] 27 (0, 0)) (by (with_reducible repeat (first | refine Zn ?_ _ | refine Zd ?_ | refine Za ?_ _)); exact BK219.out) hb); have n2_ := Zm (below_step (by repeat (first | (with_reducible first | exact HB.out | apply Zl | apply Zp | apply Ze | refine Zs ?_ GE219.out) | exact HB.out)) hb); clear BK219; clear HB; have HO222 := n0_; have BK219 := n1_; have HB := n2_; clear n0_ n1_ n2_; clear hb ho5)))
 go_ret
 exact ⟨_, by first | rfl | (simp [errW_none, errW_some] <;> rfl) | (simp [*, errW_none, errW_some] <;> rfl), by (with_reducible repeat (first | apply Kd.R_alloc | apply Kd.R_drewN | apply Kd.R_drew)); exact HO222.out, by repeat (first | (with_reducible first | exact HB.out | apply Zl | apply Zp | apply Ze | refine Zs ?_ GE219.out) | exact HB.out)⟩

/-! ### slices_Min_int64_int64: function 46 -/
def slices_Min_int64_int64.to (l : List Int) (k : Nat) : Int := ((l.drop 1).take (k - 1)).foldl mn (rd l 0)
def slices_Min_int64_int64.f (l0 : List Int) : Option (Int) := if 0 < l0.length then some ((l0.drop 1).foldl mn (rd l0 0)) else none
theorem slices_Min_int64_int64.to_succ (l : List Int) (k : Nat) (h1 : 1 ≤ k) (h : k < l.length) : slices_Min_int64_int64.to l (k + 1) = mn (slices_Min_int64_int64.to l k) (rd l (k : Int)) := by
  unfold slices_Min_int64_int64.to
  obtain ⟨j, rfl⟩ : ∃ j, k = j + 1 := ⟨k - 1, by omega⟩
  have e : (l.drop 1).take (j + 1) = (l.drop 1).take j ++ [rd l ((j + 1 : Nat) : Int)] := by
    rw [List.take_add_one, List.getElem?_drop]
    have : l[1 + j]? = some (rd l ((j + 1 : Nat) : Int)) := by
      have h2 : 1 + j < l.length := by omega
      rw [List.getElem?_eq_getElem h2]
      simp [rd, Nat.add_comm, show j + 1 < l.length by omega]
    rw [this]; rfl
  simp only [Nat.add_sub_cancel]
  rw [e, List.foldl_append]
  rfl
theorem slices_Min_int64_int64.to_all (l : List Int) : slices_Min_int64_int64.to l l.length = (l.drop 1).foldl mn (rd l 0) := by
  unfold slices_Min_int64_int64.to
  rw [List.take_of_length_le (by simp)]
theorem slices_Min_int64_int64.calls (A0 : Option Addr) (c0 : Nat) (l0 : List Int) (r : Int) (w : World) (hr0 : Kd.C (Kd.int .i64) w A0 l0.length l0) (hc0 : l0.length ≤ c0) (h : slices_Min_int64_int64.f l0 = some r) :
    Calls Try.prog 46 #[.slice A0 l0.length c0] w fun e w' => e = .returned (.int .i64 r) ∧ ∃ q, w' = w.drewN q := by
  unfold slices_Min_int64_int64.f at h
  by_cases h0 : 0 < l0.length
  case neg => rw [if_neg h0] at h; cases h
  rw [if_pos h0] at h
  obtain rfl := Option.some.inj h
  clear h
  rw [← slices_Min_int64_int64.to_all]
  have hbig := Kd.C_max hr0
  have HR0 := Zm hr0
  clear hr0
  have hz : ¬ ((l0.length : Int) < 1) := by omega
  have hltz : (0 : Int) < (l0.length : Int) := by omega
  obtain ⟨ad, rfl, hcell0⟩ := Kd.at_int HR0.out (0 : Int) (by omega) hltz
  have hcell : w.cell? ad = some (.int .i64 (rd l0 0)) := by
    have e : ad.add (Int.toNat 0) = ad := by cases ad; simp [Addr.add]
    rw [e] at hcell0; exact hcell0
  clear hcell0
  go_enter Try.func46, Try.ntmps46
  go_wp2
  go_loopg [3, 4] l0.length (fun gg s3 s4 wr => ∃ (kk q : Nat) (mv : Int), 1 ≤ kk ∧ kk ≤ l0.length ∧ l0.length - kk ≤ gg ∧ s3 = .int .i64 mv ∧ s4 = .int .i64 kk ∧ wr = w.drewN q ∧ Aside0 (mv = slices_Min_int64_int64.to l0 kk))
  case atStart => exact ⟨1, 0, _, Nat.le_refl _, h0, by omega, rfl, rfl, rfl, ⟨by simp [slices_Min_int64_int64.to]⟩⟩
  case round =>
    obtain ⟨kk, q, mv, h1, hkk, hg, rfl, rfl, rfl, A⟩ := hrel
    by_cases hlt : kk < l0.length
    · have hltz : (kk : Int) < (l0.length : Int) := by omega
      obtain ⟨ad', e', hcell⟩ := Kd.at_int HR0.out (kk : Int) (by omega) hltz
      cases e'
      have e0 : ((kk : Int)).toNat = kk := by omega
      rw [e0] at hcell
      clear e0
      have B : Aside0 (slices_Min_int64_int64.to l0 (kk + 1) = mn mv (rd l0 (kk : Int))) := ⟨by rw [slices_Min_int64_int64.to_succ l0 kk h1 hlt, A.out]⟩
      generalize rd l0 (kk : Int) = y at hcell B
      by_cases hc : y < mv
      · have B' : Aside0 (y = slices_Min_int64_int64.to l0 (kk + 1)) := ⟨by rw [B.out]; unfold mn; omega⟩
        clear B
        go_wp2
        go_roundg (l0.length - (kk + 1))
        case measure => omega
        case rel => exact ⟨kk + 1, _, _, by omega, by omega, by omega, rfl, by go_num, rfl, B'⟩
      · have B' : Aside0 (mv = slices_Min_int64_int64.to l0 (kk + 1)) := ⟨by rw [B.out]; unfold mn; omega⟩
        clear B
        go_wp2
        go_roundg (l0.length - (kk + 1))
        case measure => omega
        case rel => exact ⟨kk + 1, _, _, by omega, by omega, by omega, rfl, by go_num, rfl, B'⟩
    · have hltz : ¬ (kk : Int) < (l0.length : Int) := by omega
      have : kk = l0.length := by omega
      subst this
      go_wp2
      go_ret
      obtain rfl := A.out
      exact ⟨rfl, _, rfl⟩

-- NOT PRINTED: function 83 (slices_IndexFunc_int64_int64)

-- NOT PRINTED: function 72 (slices_ContainsFunc_int64_int64)

/-! ### impl_within: function 64 -/
def impl_within.f (a0 : Int) (a1 : Int) (a2 : Int) : Option (Bool) := if a1 ≤ a0 then (some (decide (a0 ≤ a2))) else (some false)
set_option maxHeartbeats 8000000 in
set_option maxRecDepth 100000 in
theorem impl_within.calls (a0 : Int) (a1 : Int) (a2 : Int) (r : Bool) (w : World) (h : impl_within.f a0 a1 a2 = some r) :
  Calls Try.prog 64 #[.int .i64 a0, .int .i64 a1, .int .i64 a2] w fun e w' => e = .returned (.bool r) ∧ Drawn0 w w' := by
 have H : (if a1 ≤ a0 then (some (decide (a0 ≤ a2))) else (some false)) = some r := h
 clear h
 by_cases c4 : a1 ≤ a0
 ·rw [if_pos c4] at H
  have c4b0 : decide (a1 ≤ a0) = true := decide_eq_true c4
  clear c4
  obtain rfl := Option.some.inj H
  go_enter Try.func64, Try.ntmps64
  go_wp2
  go_ret
  exact ⟨by first | rfl | (simp; done) | (simp [*]; done), by repeat (first | exact Drawn0.refl _ | apply Drawn0.step)⟩
 ·rw [if_neg c4] at H
  have c4b0 : decide (a1 ≤ a0) = false := decide_eq_false c4
  clear c4
  obtain rfl := Option.some.inj H
  go_enter Try.func64, Try.ntmps64
  go_wp2
  go_ret
  exact ⟨by first | rfl | (simp; done) | (simp [*]; done), by repeat (first | exact Drawn0.refl _ | apply Drawn0.step)⟩

-- NOT PRINTED: function 73 (impl_areWithin_1)

/-! ### impl_areWithin: function 49 -/
def impl_areWithin.f (l0 : List Int) (a1 : Int) (a2 : Int) : Option (Bool) := some (l0.all fun x => decide (a1 ≤ x) && decide (x ≤ a2))
def impl_areWithin.idx (p : Int → Bool) (l : List Int) : Int := match l.findIdx? p with | some i => (i : Int) | none => -1
theorem impl_areWithin.idx_hit (p : Int → Bool) (l : List Int) (k : Nat) (h : k < l.length) (hk : p (l.getD k 0) = true) (hj : ∀ j, j < k → p (l.getD j 0) = false) : impl_areWithin.idx p l = (k : Int) := by
  unfold impl_areWithin.idx
  have : l.findIdx? p = some k := by
    rw [List.findIdx?_eq_some_iff_getElem]
    refine ⟨h, ?_, fun j hji => ?_⟩
    · simpa [List.getD_eq_getElem?_getD, h] using hk
    · have := hj j hji; have hlt : j < l.length := by omega
      simpa [List.getD_eq_getElem?_getD, hlt] using this
  rw [this]
theorem impl_areWithin.idx_miss (p : Int → Bool) (l : List Int) (hj : ∀ j, j < l.length → p (l.getD j 0) = false) : impl_areWithin.idx p l = -1 := by
  unfold impl_areWithin.idx
  have : l.findIdx? p = none := by
    rw [List.findIdx?_eq_none_iff]
    intro x hx
    obtain ⟨j, hj', rfl⟩ := List.getElem_of_mem hx
    have := hj j hj'
    simpa [List.getD_eq_getElem?_getD, hj'] using this
  rw [this]
theorem impl_areWithin.idx_nonneg (p : Int → Bool) (l : List Int) : decide (0 ≤ impl_areWithin.idx p l) = l.any p := by
  unfold impl_areWithin.idx
  cases h : l.findIdx? p with
  | none => rw [List.findIdx?_eq_none_iff] at h; simp; intro x hx; simpa using h x hx
  | some i =>
    rw [List.findIdx?_eq_some_iff_getElem] at h
    obtain ⟨h1, h2, _⟩ := h
    have : l.any p = true := List.any_eq_true.2 ⟨_, List.getElem_mem h1, h2⟩
    simp [this]
set_option maxHeartbeats 2000000 in
theorem impl_areWithin.indexFunc (p : Int → Bool) (lb1 lb2 : Value) (A0 : Option Addr) (c0 : Nat) (l0 : List Int) (w : World)
    (hr0 : Kd.C (Kd.int .i64) w A0 l0.length l0)
    (hcall : ∀ (x : Int) (q : Nat), Calls Try.prog 73 #[.int .i64 x, lb1, lb2] (w.drewN q) fun e w' => e = .returned (.bool (p x)) ∧ ∃ q', w' = (w.drewN q).drewN q') :
    Calls Try.prog 83 #[.slice A0 l0.length c0, .func (.func 73) #[] #[lb1, lb2]] w fun e w' => e = .returned (.int .i64 (impl_areWithin.idx p l0)) ∧ ∃ q, w' = w.drewN q := by
  have hbig := Kd.C_max hr0
  have HR0 := Zm hr0
  clear hr0
  go_enter Try.func83, Try.ntmps83
  go_wp2
  go_loopg [5, 8] l0.length (fun gg _ s8 wr => ∃ kk q : Nat, kk ≤ l0.length ∧ l0.length - kk ≤ gg ∧ s8 = .int .i64 kk ∧ wr = w.drewN q ∧ Aside0 (∀ j, j < kk → p (l0.getD j 0) = false))
  case atStart => exact ⟨0, 0, Nat.zero_le _, by omega, rfl, rfl, ⟨fun j hj => absurd hj (Nat.not_lt_zero _)⟩⟩
  case round =>
    obtain ⟨kk, q, hkk, hg, rfl, rfl, A⟩ := hrel
    by_cases hlt : kk < l0.length
    · have hltz : (kk : Int) < (l0.length : Int) := by omega
      obtain ⟨ad, rfl, hcell⟩ := Kd.at_int HR0.out (kk : Int) (by omega) hltz
      have e0 : ((kk : Int)).toNat = kk := by omega
      rw [e0] at hcell
      clear e0
      have B : Aside0 (rd l0 (kk : Int) = l0.getD kk 0) := ⟨by simp [rd]⟩
      generalize rd l0 (kk : Int) = y at hcell B
      have hcl := hcall y
      cases hq : p y with
      | true =>
        rw [hq] at hcl
        go_wp2_with (go_at_call 73; refine (hcl _).mono ?_; rintro e w' ⟨rfl, q', rfl⟩)
        go_ret
        refine ⟨?_, _, rfl⟩
        rw [impl_areWithin.idx_hit p l0 kk hlt (by rw [← B.out]; exact hq) A.out]
        rfl
      | false =>
        rw [hq] at hcl
        go_wp2_with (go_at_call 73; refine (hcl _).mono ?_; rintro e w' ⟨rfl, q', rfl⟩)
        go_roundg (l0.length - (kk + 1))
        case measure => omega
        case rel =>
          refine ⟨kk + 1, _, by omega, by omega, by go_num, rfl, ⟨fun j hj => ?_⟩⟩
          by_cases e : j = kk
          · subst e
            rw [← B.out]; exact hq
          · exact A.out j (by omega)
    · have hltz : ¬ (kk : Int) < (l0.length : Int) := by omega
      have : kk = l0.length := by omega
      subst this
      go_wp2
      go_ret
      refine ⟨?_, q, rfl⟩
      rw [impl_areWithin.idx_miss p l0 A.out]
      rfl
theorem impl_areWithin.containsFunc (p : Int → Bool) (lb1 lb2 : Value) (A0 : Option Addr) (c0 : Nat) (l0 : List Int) (w : World)
    (hr0 : Kd.C (Kd.int .i64) w A0 l0.length l0)
    (hcall : ∀ (x : Int) (q : Nat), Calls Try.prog 73 #[.int .i64 x, lb1, lb2] (w.drewN q) fun e w' => e = .returned (.bool (p x)) ∧ ∃ q', w' = (w.drewN q).drewN q') :
    Calls Try.prog 72 #[.slice A0 l0.length c0, .func (.func 73) #[] #[lb1, lb2]] w fun e w' => e = .returned (.bool (l0.any p)) ∧ ∃ q, w' = w.drewN q := by
  rw [← impl_areWithin.idx_nonneg p l0]
  have hI := impl_areWithin.indexFunc p lb1 lb2 A0 c0 l0 w hr0 hcall
  clear hcall hr0
  generalize impl_areWithin.idx p l0 = i at hI
  go_enter Try.func72, Try.ntmps72
  go_wp2_with (go_at_call 83; refine hI.mono ?_; rintro e w' ⟨rfl, q, rfl⟩)
  go_ret
  exact ⟨rfl, q, rfl⟩
theorem impl_areWithin.closure (x a1 a2 : Int) (B1 B2 : Nat) (W : World) (h1 : W.cell? ⟨B1, 0, none⟩ = some (.int .i64 a1)) (h2 : W.cell? ⟨B2, 0, none⟩ = some (.int .i64 a2)) :
    Calls Try.prog 73 #[.int .i64 x, .pointer (some ⟨B1, 0, none⟩), .pointer (some ⟨B2, 0, none⟩)] W fun e w' => e = .returned (.bool (!(decide (a1 ≤ x) && decide (x ≤ a2)))) ∧ ∃ q, w' = W.drewN q := by
  have hw : ∃ b, impl_within.f x a1 a2 = some b ∧ b = (decide (a1 ≤ x) && decide (x ≤ a2)) := by
    unfold impl_within.f
    by_cases c : a1 ≤ x <;> simp [c]
  obtain ⟨b, hw, hb⟩ := hw
  rw [← hb]
  clear hb
  go_enter Try.func73, Try.ntmps73
  go_wp2_with (go_at_call 64; refine (impl_within.calls x a1 a2 b _ hw).mono ?_; rintro e w' ⟨rfl, ⟨nd, rfl⟩⟩)
  go_ret
  exact ⟨rfl, _, rfl⟩
set_option maxHeartbeats 2000000 in
theorem impl_areWithin.calls (A0 : Option Addr) (c0 : Nat) (l0 : List Int) (a1 : Int) (a2 : Int) (r : Bool) (w : World) (hr0 : Kd.C (Kd.int .i64) w A0 l0.length l0) (hc0 : l0.length ≤ c0) (h : impl_areWithin.f l0 a1 a2 = some r) :
    Calls Try.prog 49 #[.slice A0 l0.length c0, .int .i64 a1, .int .i64 a2] w fun e w' => e = .returned (.bool r) ∧ Below w.heap.size w w' := by
  obtain rfl := Option.some.inj h
  clear h
  have hC := impl_areWithin.containsFunc (fun x => !(decide (a1 ≤ x) && decide (x ≤ a2))) (.pointer (some ⟨w.heap.size, 0, none⟩)) (.pointer (some ⟨w.heap.size + 1, 0, none⟩)) A0 c0 l0 ((w.alloc (.cells #[.int .i64 a1] 2)).alloc (.cells #[.int .i64 a2] 2))
    (Kd.C_alloc (Kd.C_alloc hr0 _) _)
    (fun x q => impl_areWithin.closure x a1 a2 _ _ _ (by simp) (by simp))
  have e : (!(l0.any fun x => !(decide (a1 ≤ x) && decide (x ≤ a2)))) = (l0.all fun x => decide (a1 ≤ x) && decide (x ≤ a2)) := by
    simp [List.all_eq_not_any_not]
  rw [← e]
  clear e hr0
  generalize (l0.any fun x => !(decide (a1 ≤ x) && decide (x ≤ a2))) = b at hC
  go_enter Try.func49, Try.ntmps49
  go_wp2_with (go_at_call 72; refine hC.mono ?_; rintro e w' ⟨rfl, q, rfl⟩)
  go_ret
  exact ⟨rfl, Zp (Zl (Zl (Below.refl _ _) _) _) q⟩

/-! ### impl_ValidPose: function 48 -/
def impl_ValidPose.f (a0_0 : Int) (a0_1 : Int) (a0_2 : Int) (a0_3 : Int) : Option (Bool) := (impl_areWithin.f (([a0_0, a0_1] : List Int)) (-100000) 100000).bind fun t227 => (if t227 = true then ((impl_areWithin.f (([a0_2, a0_3] : List Int)) (-400) 400).bind fun t231 => (some t231)) else (some false))
set_option maxHeartbeats 8000000 in
set_option maxRecDepth 100000 in
theorem impl_ValidPose.calls (a0_0 : Int) (a0_1 : Int) (a0_2 : Int) (a0_3 : Int) (r : Bool) (w : World) (h : impl_ValidPose.f a0_0 a0_1 a0_2 a0_3 = some r) :
  Calls Try.prog 48 #[.agg #[.int .i64 a0_0, .int .i64 a0_1, .int .i64 a0_2, .int .i64 a0_3]] w fun e w' => e = .returned (.bool r) ∧ Below w.heap.size w w' := by
 have hu25 := Try.underlying25
 have HB := Zm (Below.refl w.heap.size w)
 have H : ((impl_areWithin.f (([a0_0, a0_1] : List Int)) (-100000) 100000).bind fun t227 => (if t227 = true then ((impl_areWithin.f (([a0_2, a0_3] : List Int)) (-400) 400).bind fun t231 => (some t231)) else (some false))) = some r := h
 clear h
 obtain ⟨y224, hy224⟩ : ∃ y_ : List Int, y_ = (([a0_0, a0_1] : List Int)) := ⟨_, rfl⟩
 replace H : ((impl_areWithin.f y224 (-100000) 100000).bind fun t227 => (if t227 = true then ((impl_areWithin.f (([a0_2, a0_3] : List Int)) (-400) 400).bind fun t231 => (some t231)) else (some false))) = some r := by first | (rw [hy224]; with_reducible exact H) | (have H2_ := (Option.bind_some _ _).symm.trans H; rw [hy224]; with_reducible exact H2_) | (have H2_ := (Option.bind_some _ _).symm.trans H; with_reducible exact H2_) | with_reducible exact H | (rw [hy224]; exact H) | exact H
 have Ny224 := Zm hy224
 clear hy224
 replace H := Option.bind_eq_some_iff.mp H
 obtain ⟨t227, A20, H⟩ := H
 replace H : (if t227 = true then ((impl_areWithin.f (([a0_2, a0_3] : List Int)) (-400) 400).bind fun t231 => (some t231)) else (some false)) = some r := H
 have A2 := Zm A20
 clear A20
 by_cases c3 : t227 = true
 ·subst c3
  have H1 : ((impl_areWithin.f (([a0_2, a0_3] : List Int)) (-400) 400).bind fun t231 => (some t231)) = some r := by rw [if_pos rfl] at H; exact H
  clear H
  have H := H1
  clear H1
  obtain ⟨y228, hy228⟩ : ∃ y_ : List Int, y_ = (([a0_2, a0_3] : List Int)) := ⟨_, rfl⟩
  replace H : ((impl_areWithin.f y228 (-400) 400).bind fun t231 => (some t231)) = some r := by first | (rw [hy228]; with_reducible exact H) | (have H2_ := (Option.bind_some _ _).symm.trans H; rw [hy228]; with_reducible exact H2_) | (have H2_ := (Option.bind_some _ _).symm.trans H; with_reducible exact H2_) | with_reducible exact H | (rw [hy228]; exact H) | exact H
  have Ny228 := Zm hy228
  clear hy228
  replace H := Option.bind_eq_some_iff.mp H
  obtain ⟨t231, A40, H⟩ := H
  replace H : (some t231) = some r := H
  have A4 := Zm A40
  clear A40
  obtain rfl := Option.some.inj H
  go_enter Try.func48, Try.ntmps48
  go_wp2_with (first | ((with_reducible refine gate_dst (N := 1) rfl ?_); (try (refine gate_guard (by rfl) ?_; dsimp only)); refine box_event ?hg (N := 1) ?hd (cs := #[.int .i64 a0_0, .int .i64 a0_1, .int .i64 a0_2, .int .i64 a0_3]) (t := 25) ?hr ?_; (case hd => rfl); (case hg => rfl); (case hr => first | (go_simp; done) | (go_simp; rfl)); intro gb223 hg w5 hbox hb; have n0_ := Zm (below_step (by repeat (first | (with_reducible first | exact HB.out | apply Zl | apply Zp | apply Ze) | exact HB.out)) hb); have n1_ := Zm (hbox); have n2_ := Zm ((by rw [hg]; exact (below_size (by repeat (first | (with_reducible first | exact HB.out | apply Zl | apply Zp | apply Ze) | exact HB.out))) : w.heap.size ≤ gb223)); have n3_ := Zm ((by rw [hg]; exact (below_size (by repeat (first | (with_reducible first | exact HB.out | apply Zl | apply Zp | apply Ze) | exact HB.out))) : w.heap.size ≤ gb223)); clear HB; have HB := n0_; have BK223 := n1_; have GW223 := n2_; have GE223 := n3_; clear n0_ n1_ n2_ n3_; clear hb hbox hg; have hcz6_0 : w5.cell? ⟨gb223, 0, none⟩ = some (.int .i64 a0_0) := (Zc BK223.out 0).trans rfl; have hcz6_1 : w5.cell? ⟨gb223, 1, none⟩ = some (.int .i64 a0_1) := (Zc BK223.out 1).trans rfl; have hcz6_2 : w5.cell? ⟨gb223, 2, none⟩ = some (.int .i64 a0_2) := (Zc BK223.out 2).trans rfl; have hcz6_3 : w5.cell? ⟨gb223, 3, none⟩ = some (.int .i64 a0_3) := (Zc BK223.out 3).trans rfl; have hfz6_0 := Zf BK223.out 0; have hfz6_1 := Zf BK223.out 1; have hfz6_2 := Zf BK223.out 2; have hfz6_3 := Zf BK223.out 3) | ((with_reducible refine gate_dst (N := 7) rfl ?_); (try (refine gate_guard (by rfl) ?_; dsimp only)); refine Kd.R_lit (Kd.int .i64) _ 2 ?hg (N := 7) ?hd (xs := ([a0_0, a0_1] : List Int)) (inner := [.int .i64 a0_0, .int .i64 a0_1]) (ok := fun _ => True) (okp := fun _ => True) ?hr ?hp (fun _ hk => hk) trivial (Below.refl _ _) (Nat.le_refl _) (by simp) ?_; (case hd => rfl); (case hg => rfl); (case hr => first | (go_simp; done) | (go_simp; rfl)); (case hp => exact (Reps.one (show Kd.M (Kd.int .i64) _ _ _ a0_0 [.int .i64 a0_0] from rfl) (Reps.one (show Kd.M (Kd.int .i64) _ _ _ a0_1 [.int .i64 a0_1] from rfl) (Reps.none _ _)))); intro v225 w7 ho8 hb hg_ hnew_; clear hg_ hnew_; (first | rw [← Ny224.out] at ho8 | (simp only [Int.reduceToNat] at ho8; rw [← Ny224.out] at ho8)); have n0_ := Zm (Kd.R_lower ho8 (below_size (by repeat (first | (with_reducible first | exact HB.out | apply Zl | apply Zp | apply Ze | refine Zs ?_ GE223.out) | exact HB.out)))); have n1_ := Zm (blk_below (g := gb223) (o := .cells #[.int .i64 a0_0, .int .i64 a0_1, .int .i64 a0_2, .int .i64 a0_3] 25 (0, 0)) (by (with_reducible repeat (first | refine Zn ?_ _ | refine Zd ?_ | refine Za ?_ _)); exact BK223.out) hb); have n2_ := Zm (below_step (by repeat (first | (with_reducible first | exact HB.out | apply Zl | apply Zp | apply Ze | refine Zs ?_ GE223.out) | exact HB.out)) hb); clear BK223; clear HB; have HO226 := n0_; have BK223 := n1_; have HB := n2_; clear n0_ n1_ n2_; clear hb ho8; obtain ⟨Ao9, co9, eo9⟩ := Kd.R_slice HO226.out; subst eo9) | ((with_reducible refine gate_callee (f := 49) rfl ?_); refine goesL_ (some 8) rfl rfl Try.func49 (by kernel_rfl) rfl #[.slice Ao9 y224.length co9, .int .i64 (-100000), .int .i64 100000] rfl (by (try simp only [List.map_toArray, List.map_cons, List.map_nil]); first | done | rfl | (simp only [List.length_drop, List.length_take]; rfl)) ?_; (with_reducible refine (impl_areWithin.calls _ _ y224 (-100000) 100000 true _ ?side1 ?side2 A2.out).mono ?_); (case side1 => repeat (first | exact (Kd.R_reads' HO226.out).2.2 | (with_reducible refine Kd.C_alloc ?_ _) | (with_reducible refine Kd.C_drewN ?_ _) | (with_reducible refine Kd.C_drew ?_))); (case side2 => exact (Kd.R_reads' HO226.out).2.1); rintro e w10 ⟨rfl, hb⟩; refine ⟨_, rfl, ?_⟩; have n0_ := Zm (Kd.R_below (by (with_reducible repeat (first | apply Kd.R_alloc | apply Kd.R_drewN | apply Kd.R_drew)); exact HO226.out) hb); have n1_ := Zm (blk_below (g := gb223) (o := .cells #[.int .i64 a0_0, .int .i64 a0_1, .int .i64 a0_2, .int .i64 a0_3] 25 (0, 0)) (by (with_reducible repeat (first | refine Zn ?_ _ | refine Zd ?_ | refine Za ?_ _)); exact BK223.out) hb); have n2_ := Zm (below_step (by repeat (first | (with_reducible first | exact HB.out | apply Zl | apply Zp | apply Ze | refine Zs ?_ GE223.out) | exact HB.out)) hb); clear HO226; clear BK223; clear HB; have HO226 := n0_; have BK223 := n1_; have HB := n2_; clear n0_ n1_ n2_; (try clear hb); (try clear hb2); (try clear hk); (try clear hi); have hcz11_0 : w10.cell? ⟨gb223, 0, none⟩ = some (.int .i64 a0_0) := (Zc BK223.out 0).trans rfl; have hcz11_1 : w10.cell? ⟨gb223, 1, none⟩ = some (.int .i64 a0_1) := (Zc BK223.out 1).trans rfl; have hcz11_2 : w10.cell? ⟨gb223, 2, none⟩ = some (.int .i64 a0_2) := (Zc BK223.out 2).trans rfl; have hcz11_3 : w10.cell? ⟨gb223, 3, none⟩ = some (.int .i64 a0_3) := (Zc BK223.out 3).trans rfl; have hfz11_0 := Zf BK223.out 0; have hfz11_1 := Zf BK223.out 1; have hfz11_2 := Zf BK223.out 2; have hfz11_3 := Zf BK223.out 3) | ((with_reducible refine gate_dst (N := 14) rfl ?_); (try (refine gate_guard (by rfl) ?_; dsimp only)); refine Kd.R_lit (Kd.int .i64) _ 2 ?hg (N := 14) ?hd (xs := ([a0_2, a0_3] : List Int)) (inner := [.int .i64 a0_2, .int .i64 a0_3]) (ok := fun _ => True) (okp := fun _ => True) ?hr ?hp (fun _ hk => hk) trivial (Below.refl _ _) (Nat.le_refl _) (by simp) ?_; (case hd => rfl); (case hg => rfl); (case hr => first | (go_simp; done) | (go_simp; rfl)); (case hp => exact (Reps.one (show Kd.M (Kd.int .i64) _ _ _ a0_2 [.int .i64 a0_2] from rfl) (Reps.one (show Kd.M (Kd.int .i64) _ _ _ a0_3 [.int .i64 a0_3] from rfl) (Reps.none _ _)))); intro v229 w12 ho13 hb hg_ hnew_; clear hg_ hnew_; (first | rw [← Ny228.out] at ho13 | (simp only [Int.reduceToNat] at ho13; rw [← Ny228.out] at ho13)); have n0_ := Zm (Kd.R_elder' (by (with_reducible repeat (first | apply Kd.R_alloc | apply Kd.R_drewN | apply Kd.R_drew)); exact HO226.out) (Kd.R_base ho13) hb); have n1_ := Zm (Kd.R_lower (Kd.R_new' ho13 (Kd.R_lt (by (with_reducible repeat (first | apply Kd.R_alloc | apply Kd.R_drewN | apply Kd.R_drew)); exact HO226.out))) (below_size (by repeat (first | (with_reducible first | exact HB.out | apply Zl | apply Zp | apply Ze | refine Zs ?_ GE223.out) | exact HB.out)))); have n2_ := Zm (blk_below (g := gb223) (o := .cells #[.int .i64 a0_0, .int .i64 a0_1, .int .i64 a0_2, .int .i64 a0_3] 25 (0, 0)) (by (with_reducible repeat (first | refine Zn ?_ _ | refine Zd ?_ | refine Za ?_ _)); exact BK223.out) hb); have n3_ := Zm (below_step (by repeat (first | (with_reducible first | exact HB.out | apply Zl | apply Zp | apply Ze | refine Zs ?_ GE223.out) | exact HB.out)) hb); clear HO226; clear BK223; clear HB; have HO226 := n0_; have HO230 := n1_; have BK223 := n2_; have HB := n3_; clear n0_ n1_ n2_ n3_; clear hb ho13; obtain ⟨Ao14, co14, eo14⟩ := Kd.R_slice HO230.out; subst eo14) | (go_at_call 49; (with_reducible refine (impl_areWithin.calls _ _ y228 (-400) 400 t231 _ ?side1 ?side2 A4.out).mono ?_); (case side1 => repeat (first | exact (Kd.R_reads' HO230.out).2.2 | (with_reducible refine Kd.C_alloc ?_ _) | (with_reducible refine Kd.C_drewN ?_ _) | (with_reducible refine Kd.C_drew ?_))); (case side2 => exact (Kd.R_reads' HO230.out).2.1); rintro e w15 ⟨rfl, hb⟩; have n0_ := Zm (Kd.R_below (by (with_reducible repeat (first | apply Kd.R_alloc | apply Kd.R_drewN | apply Kd.R_drew)); exact HO226.out) hb); have n1_ := Zm (Kd.R_below (by (with_reducible repeat (first | apply Kd.R_alloc | apply Kd.R_drewN | apply Kd.R_drew)); exact HO230.out) hb); have n2_ := Zm (blk_below (g := gb223) (o := .cells #[.int .i64 a0_0, .int .i64 a0_1, .int .i64 a0_2, .int .i64 a0_3] 25 (0, 0)) (by (with_reducible repeat (first | refine Zn ?_ _ | refine Zd ?_ | refine Za ?_ _)); exact BK223.out) hb); have n3_ := Zm (below_step (by repeat (first | (with_reducible first | exact HB.out | apply Zl | apply Zp | apply Ze | refine Zs ?_ GE223.out) | exact HB.out)) hb); clear HO226; clear HO230; clear BK223; clear HB; have HO226 := n0_; have HO230 := n1_; have BK223 := n2_; have HB := n3_; clear n0_ n1_ n2_ n3_; (try clear hb); (try clear hb2); (try clear hk); (try clear hi)))
  go_ret
  exact ⟨by first | rfl | (simp [errW_none, errW_some] <;> rfl) | (simp [*, errW_none, errW_some] <;> rfl), by repeat (first | (with_reducible first | exact HB.out | apply Zl | apply Zp | apply Ze | refine Zs ?_ GE223.out) | exact HB.out)⟩
 ·replace c3 := Bool.eq_false_iff.mpr c3
  subst c3
  have H1 : (some false) = some r := by rw [if_neg (show ¬ (false = true) by decide)] at H; exact H
  clear H
  have H := H1
  clear H1
  obtain rfl := Option.some.inj H
  go_enter Try.func48, Try.ntmps48
  go_wp2_with (first | ((with_reducible refine gate_dst (N := 1) rfl ?_); (try (refine gate_guard (by rfl) ?_; dsimp only)); refine box_event ?hg (N := 1) ?hd (cs := #[.int .i64 a0_0, .int .i64 a0_1, .int .i64 a0_2, .int .i64 a0_3]) (t := 25) ?hr ?_; (case hd => rfl); (case hg => rfl); (case hr => first | (go_simp; done) | (go_simp; rfl)); intro gb223 hg w16 hbox hb; have n0_ := Zm (below_step (by repeat (first | (with_reducible first | exact HB.out | apply Zl | apply Zp | apply Ze) | exact HB.out)) hb); have n1_ := Zm (hbox); have n2_ := Zm ((by rw [hg]; exact (below_size (by repeat (first | (with_reducible first | exact HB.out | apply Zl | apply Zp | apply Ze) | exact HB.out))) : w.heap.size ≤ gb223)); have n3_ := Zm ((by rw [hg]; exact (below_size (by repeat (first | (with_reducible first | exact HB.out | apply Zl | apply Zp | apply Ze) | exact HB.out))) : w.heap.size ≤ gb223)); clear HB; have HB := n0_; have BK223 := n1_; have GW223 := n2_; have GE223 := n3_; clear n0_ n1_ n2_ n3_; clear hb hbox hg; have hcz17_0 : w16.cell? ⟨gb223, 0, none⟩ = some (.int .i64 a0_0) := (Zc BK223.out 0).trans rfl; have hcz17_1 : w16.cell? ⟨gb223, 1, none⟩ = some (.int .i64 a0_1) := (Zc BK223.out 1).trans rfl; have hcz17_2 : w16.cell? ⟨gb223, 2, none⟩ = some (.int .i64 a0_2) := (Zc BK223.out 2).trans rfl; have hcz17_3 : w16.cell? ⟨gb223, 3, none⟩ = some (.int .i64 a0_3) := (Zc BK223.out 3).trans rfl; have hfz17_0 := Zf BK223.out 0; have hfz17_1 := Zf BK223.out 1; have hfz17_2 := Zf BK223.out 2; have hfz17_3 := Zf BK223.out 3) | ((with_reducible refine gate_dst (N := 7) rfl ?_); (try (refine gate_guard (by rfl) ?_; dsimp only)); refine Kd.R_lit (Kd.int .i64) _ 2 ?hg (N := 7) ?hd (xs := ([a0_0, a0_1] : List Int)) (inner := [.int .i64 a0_0, .int .i64 a0_1]) (ok := fun _ => True) (okp := fun _ => True) ?hr ?hp (fun _ hk => hk) trivial (Below.refl _ _) (Nat.le_refl _) (by simp) ?_; (case hd => rfl); (case hg => rfl); (case hr => first | (go_simp; done) | (go_simp; rfl)); (case hp => exact (Reps.one (show Kd.M (Kd.int .i64) _ _ _ a0_0 [.int .i64 a0_0] from rfl) (Reps.one (show Kd.M (Kd.int .i64) _ _ _ a0_1 [.int .i64 a0_1] from rfl) (Reps.none _ _)))); intro v225 w18 ho19 hb hg_ hnew_; clear hg_ hnew_; (first | rw [← Ny224.out] at ho19 | (simp only [Int.reduceToNat] at ho19; rw [← Ny224.out] at ho19)); have n0_ := Zm (Kd.R_lower ho19 (below_size (by repeat (first | (with_reducible first | exact HB.out | apply Zl | apply Zp | apply Ze | refine Zs ?_ GE223.out) | exact HB.out)))); have n1_ := Zm (blk_below (g := gb223) (o := .cells #[.int .i64 a0_0, .int .i64 a0_1, .int .i64 a0_2, .int .i64 a0_3] 25 (0, 0)) (by (with_reducible repeat (first | refine Zn ?_ _ | refine Zd ?_ | refine Za ?_ _)); exact BK223.out) hb); have n2_ := Zm (below_step (by repeat (first | (with_reducible first | exact HB.out | apply Zl | apply Zp | apply Ze | refine Zs ?_ GE223.out) | exact HB.out)) hb); clear BK223; clear HB; have HO226 := n0_; have BK223 := n1_; have HB := n2_; clear n0_ n1_ n2_; clear hb ho19; obtain ⟨Ao20, co20, eo20⟩ := Kd.R_slice HO226.out; subst eo20) | ((with_reducible refine gate_callee (f := 49) rfl ?_); refine goesL_ (some 8) rfl rfl Try.func49 (by kernel_rfl) rfl #[.slice Ao20 y224.length co20, .int .i64 (-100000), .int .i64 100000] rfl (by (try simp only [List.map_toArray, List.map_cons, List.map_nil]); first | done | rfl | (simp only [List.length_drop, List.length_take]; rfl)) ?_; (with_reducible refine (impl_areWithin.calls _ _ y224 (-100000) 100000 false _ ?side1 ?side2 A2.out).mono ?_); (case side1 => repeat (first | exact (Kd.R_reads' HO226.out).2.2 | (with_reducible refine Kd.C_alloc ?_ _) | (with_reducible refine Kd.C_drewN ?_ _) | (with_reducible refine Kd.C_drew ?_))); (case side2 => exact (Kd.R_reads' HO226.out).2.1); rintro e w21 ⟨rfl, hb⟩; refine ⟨_, rfl, ?_⟩; have n0_ := Zm (Kd.R_below (by (with_reducible repeat (first | apply Kd.R_alloc | apply Kd.R_drewN | apply Kd.R_drew)); exact HO226.out) hb); have n1_ := Zm (blk_below (g := gb223) (o := .cells #[.int .i64 a0_0, .int .i64 a0_1, .int .i64 a0_2, .int .i64 a0_3] 25 (0, 0)) (by (with_reducible repeat (first | refine Zn ?_ _ | refine Zd ?_ | refine Za ?_ _)); exact BK223.out) hb); have n2_ := Zm (below_step (by repeat (first | (with_reducible first | exact HB.out | apply Zl | apply Zp | apply Ze | refine Zs ?_ GE223.out) | exact HB.out)) hb); clear HO226; clear BK223; clear HB; have HO226 := n0_; have BK223 := n1_; have HB := n2_; clear n0_ n1_ n2_; (try clear hb); (try clear hb2); (try clear hk); (try clear hi)))
  go_ret
  exact ⟨by first | rfl | (simp [errW_none, errW_some] <;> rfl) | (simp [*, errW_none, errW_some] <;> rfl), by repeat (first | (with_reducible first | exact HB.out | apply Zl | apply Zp | apply Ze | refine Zs ?_ GE223.out) | exact HB.out)⟩

end Go.Proofs.Ytncdmooobfomeaa.G
