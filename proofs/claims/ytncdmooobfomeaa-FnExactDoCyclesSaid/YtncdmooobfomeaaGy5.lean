-- laid by wip/tools/regroup.py: printed functions, grouped by the laws that need them. Lean checks it.
import Derived.Test.YtncdmooobfomeaaGx0
import Derived.Test.YtncdmooobfomeaaGy1
import Derived.Test.YtncdmooobfomeaaGy2
import Derived.Test.YtncdmooobfomeaaGy4
namespace Go.Proofs.Ytncdmooobfomeaa.G
open Go.RowKit Go.Proofs.YtncdmooobfomeaaW.PrintWords Go.Proofs.YtncdmooobfomeaaW.PrintLast Go.Proofs.YtncdmooobfomeaaW.PrintMore
attribute [local go_sem] max2_int min2_int max_two min_two max_three min_three max_four min_four   -- for this text's walks alone
set_option linter.unusedVariables false
set_option linter.unusedSimpArgs false

/-! ### spec_l04Push: function 78 -/
def spec_l04Push.f (k : Nat) (a0_0 : Int) (a0_1 : Int) (a0_2 : Int) (a0_3 : Int) (a0_4 : Int) (a0_5 : Int) (a0_6 : Int) (a0_7 : Int) (a0_8 : Int) (a1 : Int) (a2 : Int) : Option (Int × Int × Int × Int × Int × Int × Int × Int × Int × Bool) := (spec_l02Turn.f a1 a2).bind fun t320 => (if t320 = true then ((spec_l02Next.f a0_0 a0_1 a0_2 a0_3 a1 a2).bind fun bt321 => ((spec_l04Is.f k bt321.1 bt321.2.1 bt321.2.2.1 bt321.2.2.2 a0_4 a0_5 a0_6 a0_7 (wrap64 (a0_8 + 1500))).bind fun t326 => (if t326 = true then (some (bt321.1, bt321.2.1, bt321.2.2.1, bt321.2.2.2, a0_4, a0_5, a0_6, a0_7, wrap64 (a0_8 + 1500), true)) else (some (0, 0, 0, 0, 0, 0, 0, 0, 0, false))))) else (some (0, 0, 0, 0, 0, 0, 0, 0, 0, false)))
theorem spec_l04Push.mono : ∀ a0 a1 a2 a3 a4 a5 a6 a7 a8 a9 a10 k, LeO (spec_l04Push.f k a0 a1 a2 a3 a4 a5 a6 a7 a8 a9 a10) (spec_l04Push.f (k + 1) a0 a1 a2 a3 a4 a5 a6 a7 a8 a9 a10) := by
 intro a0 a1 a2 a3 a4 a5 a6 a7 a8 a9 a10 k
 unfold spec_l04Push.f
 repeat' first
   | (with_reducible exact spec_l04Is.mono _ _ _ _ _ _ _ _ _ _)
   | (with_reducible exact LeO.refl _)
   | (with_reducible exact LeO.none _)
   | (with_reducible refine LeO.ite ?_ ?_)
   | (with_reducible refine LeO.bind ?_ (fun _ => ?_))
   | exact spec_l04Is.mono _ _ _ _ _ _ _ _ _ _
   | exact LeO.none _
   | refine LeO.ite ?_ ?_
   | refine LeO.bind ?_ (fun _ => ?_)
def spec_l04Push.T3 : Bool × List (List Nat × List Nat) := (true, [([], []), ([0], [0]), ([1], [1]), ([2], [2]), ([], []), ([], []), ([3, 4, 5], [3, 4, 5]), ([], []), ([7], [7]), ([8], [8]), ([9], [9]), ([], []), ([11], [11]), ([12], [12]), ([13], [13]), ([14], [14]), ([6, 10, 15], [6, 10, 15]), ([], []), ([17, 16, 6, 0, 1, 2, 3, 4, 5, 6, 7, 8, 9, 10, 11, 12, 13, 14, 15, 16, 17], [16, 17])])
def spec_l04Push.B3 : List Nat := [0, 1, 3, 7, 0, 0, 63, 0, 128, 384, 896, 0, 2048, 6144, 14336, 30720, 65535, 0, 262143]
theorem spec_l04Push.tab3 : rtab .any (opsOf Try.f78 3) = spec_l04Push.T3 := by kernel_rfl
theorem spec_l04Push.bits3 : waitsOk spec_l04Push.T3.2 spec_l04Push.B3 = true := by kernel_rfl
set_option maxHeartbeats 8000000 in
set_option maxRecDepth 100000 in
theorem spec_l04Push.calls (k : Nat) (gp0 : Nat) (a0_0 : Int) (a0_1 : Int) (a0_2 : Int) (a0_3 : Int) (a0_4 : Int) (a0_5 : Int) (a0_6 : Int) (a0_7 : Int) (a0_8 : Int) (a1 : Int) (a2 : Int) (r1 : Int) (r2 : Int) (r3 : Int) (r4 : Int) (r5 : Int) (r6 : Int) (r7 : Int) (r8 : Int) (r9 : Int) (r10 : Bool) (w : World) (hbx0 : w.heap[gp0]? = some (.cells #[.int .i64 a0_0, .int .i64 a0_1, .int .i64 a0_2, .int .i64 a0_3, .int .i64 a0_4, .int .i64 a0_5, .int .i64 a0_6, .int .i64 a0_7, .int .i64 a0_8] 27 (0, 0))) (h : spec_l04Push.f k a0_0 a0_1 a0_2 a0_3 a0_4 a0_5 a0_6 a0_7 a0_8 a1 a2 = some (r1, r2, r3, r4, r5, r6, r7, r8, r9, r10)) :
  Calls Try.prog 78 #[.pointer (some ⟨gp0, 0, none⟩), .int .i64 a1, .int .i64 a2] w fun e w' => e = .returned (.tuple #[.agg #[.int .i64 r1, .int .i64 r2, .int .i64 r3, .int .i64 r4, .int .i64 r5, .int .i64 r6, .int .i64 r7, .int .i64 r8, .int .i64 r9], .bool r10]) ∧ Below w.heap.size w w' := by
 have hu27 := Try.underlying27
 have hu25 := Try.underlying25
 have BK0 := Zm hbx0
 clear hbx0
 have HB := Zm (Below.refl w.heap.size w)
 have H : ((spec_l02Turn.f a1 a2).bind fun t320 => (if t320 = true then ((spec_l02Next.f a0_0 a0_1 a0_2 a0_3 a1 a2).bind fun bt321 => ((spec_l04Is.f k bt321.1 bt321.2.1 bt321.2.2.1 bt321.2.2.2 a0_4 a0_5 a0_6 a0_7 (wrap64 (a0_8 + 1500))).bind fun t326 => (if t326 = true then (some (bt321.1, bt321.2.1, bt321.2.2.1, bt321.2.2.2, a0_4, a0_5, a0_6, a0_7, wrap64 (a0_8 + 1500), true)) else (some (0, 0, 0, 0, 0, 0, 0, 0, 0, false))))) else (some (0, 0, 0, 0, 0, 0, 0, 0, 0, false)))) = some (r1, r2, r3, r4, r5, r6, r7, r8, r9, r10) := h
 clear h
 replace H := Option.bind_eq_some_iff.mp H
 obtain ⟨t320, A40, H⟩ := H
 replace H : (if t320 = true then ((spec_l02Next.f a0_0 a0_1 a0_2 a0_3 a1 a2).bind fun bt321 => ((spec_l04Is.f k bt321.1 bt321.2.1 bt321.2.2.1 bt321.2.2.2 a0_4 a0_5 a0_6 a0_7 (wrap64 (a0_8 + 1500))).bind fun t326 => (if t326 = true then (some (bt321.1, bt321.2.1, bt321.2.2.1, bt321.2.2.2, a0_4, a0_5, a0_6, a0_7, wrap64 (a0_8 + 1500), true)) else (some (0, 0, 0, 0, 0, 0, 0, 0, 0, false))))) else (some (0, 0, 0, 0, 0, 0, 0, 0, 0, false))) = some (r1, r2, r3, r4, r5, r6, r7, r8, r9, r10) := H
 have A4 := Zm A40
 clear A40
 by_cases c5 : t320 = true
 ·subst c5
  have H1 : ((spec_l02Next.f a0_0 a0_1 a0_2 a0_3 a1 a2).bind fun bt321 => ((spec_l04Is.f k bt321.1 bt321.2.1 bt321.2.2.1 bt321.2.2.2 a0_4 a0_5 a0_6 a0_7 (wrap64 (a0_8 + 1500))).bind fun t326 => (if t326 = true then (some (bt321.1, bt321.2.1, bt321.2.2.1, bt321.2.2.2, a0_4, a0_5, a0_6, a0_7, wrap64 (a0_8 + 1500), true)) else (some (0, 0, 0, 0, 0, 0, 0, 0, 0, false))))) = some (r1, r2, r3, r4, r5, r6, r7, r8, r9, r10) := by rw [if_pos rfl] at H; exact H
  clear H
  have H := H1
  clear H1
  replace H := Option.bind_eq_some_iff.mp H
  obtain ⟨⟨t321, t322, t323, t324⟩, A60, H⟩ := H
  replace H : ((spec_l04Is.f k t321 t322 t323 t324 a0_4 a0_5 a0_6 a0_7 (wrap64 (a0_8 + 1500))).bind fun t326 => (if t326 = true then (some (t321, t322, t323, t324, a0_4, a0_5, a0_6, a0_7, wrap64 (a0_8 + 1500), true)) else (some (0, 0, 0, 0, 0, 0, 0, 0, 0, false)))) = some (r1, r2, r3, r4, r5, r6, r7, r8, r9, r10) := H
  have A6 := Zm A60
  clear A60
  replace H := Option.bind_eq_some_iff.mp H
  obtain ⟨t326, A70, H⟩ := H
  replace H : (if t326 = true then (some (t321, t322, t323, t324, a0_4, a0_5, a0_6, a0_7, wrap64 (a0_8 + 1500), true)) else (some (0, 0, 0, 0, 0, 0, 0, 0, 0, false))) = some (r1, r2, r3, r4, r5, r6, r7, r8, r9, r10) := H
  have A7 := Zm A70
  clear A70
  by_cases c8 : t326 = true
  ·subst c8
   have H1 : (some (t321, t322, t323, t324, a0_4, a0_5, a0_6, a0_7, wrap64 (a0_8 + 1500), true)) = some (r1, r2, r3, r4, r5, r6, r7, r8, r9, r10) := by rw [if_pos rfl] at H; exact H
   clear H
   have H := H1
   clear H1
   simp only [Option.some.injEq, Prod.mk.injEq] at H
   obtain ⟨rfl, rfl, rfl, rfl, rfl, rfl, rfl, rfl, rfl, rfl⟩ := H
   go_enter Try.func78, Try.ntmps78
   try go_wp2_with (first | ((with_reducible refine gate_dst (N := 6) rfl ?_); refine box_event ?hg (N := 6) ?hd (cs := #[.int .i64 0, .int .i64 0, .int .i64 0, .int .i64 0, .int .i64 0, .int .i64 0, .int .i64 0, .int .i64 0, .int .i64 0]) (t := 27) ?hr ?_; (case hd => rfl); (case hg => rfl); (case hr => first | (go_simp; done) | (go_simp; rfl)); intro gb319 hg w9 hbox hb; have n0_ := Zm (blk_below (g := gp0) (o := .cells #[.int .i64 a0_0, .int .i64 a0_1, .int .i64 a0_2, .int .i64 a0_3, .int .i64 a0_4, .int .i64 a0_5, .int .i64 a0_6, .int .i64 a0_7, .int .i64 a0_8] 27 (0, 0)) (by (with_reducible repeat (first | refine Zn ?_ _ | refine Zd ?_ | refine Za ?_ _)); exact BK0.out) hb); have n1_ := Zm (below_step (by repeat (first | (with_reducible first | exact HB.out | apply Zl | apply Zp | apply Ze | refine Zs ?_ GE0.out) | exact HB.out)) hb); have n2_ := Zm (hbox); have n3_ := Zm ((by rw [hg]; exact (below_size (by repeat (first | (with_reducible first | exact HB.out | apply Zl | apply Zp | apply Ze | refine Zs ?_ GE0.out) | exact HB.out))) : w.heap.size ≤ gb319)); have n4_ := Zm ((by rw [hg]; exact (below_size (by repeat (first | (with_reducible first | exact HB.out | apply Zl | apply Zp | apply Ze | refine Zs ?_ GE0.out) | exact HB.out))) : w.heap.size ≤ gb319)); have n5_ := Zm ((by rw [hg]; exact Nat.ne_of_lt (blk_lt (g := gp0) (o := .cells #[.int .i64 a0_0, .int .i64 a0_1, .int .i64 a0_2, .int .i64 a0_3, .int .i64 a0_4, .int .i64 a0_5, .int .i64 a0_6, .int .i64 a0_7, .int .i64 a0_8] 27 (0, 0)) (by (with_reducible repeat (first | refine Zn ?_ _ | refine Zd ?_ | refine Za ?_ _)); exact BK0.out)) : gp0 ≠ gb319)); have n6_ := Zm ((by rw [hg]; exact Nat.ne_of_gt (blk_lt (g := gp0) (o := .cells #[.int .i64 a0_0, .int .i64 a0_1, .int .i64 a0_2, .int .i64 a0_3, .int .i64 a0_4, .int .i64 a0_5, .int .i64 a0_6, .int .i64 a0_7, .int .i64 a0_8] 27 (0, 0)) (by (with_reducible repeat (first | refine Zn ?_ _ | refine Zd ?_ | refine Za ?_ _)); exact BK0.out)) : gb319 ≠ gp0)); clear BK0; clear HB; have BK0 := n0_; have HB := n1_; have BK319 := n2_; have GW319 := n3_; have GE319 := n4_; have NB0_319 := n5_; have NB319_0 := n6_; clear n0_ n1_ n2_ n3_ n4_ n5_ n6_; clear hb hbox hg) | ((with_reducible refine gate_callee (f := 87) rfl ?_); refine goesL_ (some 11) rfl rfl Try.func87 (by kernel_rfl) rfl #[.int .i64 a1, .int .i64 a2] rfl (by (try simp only [List.map_toArray, List.map_cons, List.map_nil]); first | done | rfl | (simp only [List.length_drop, List.length_take]; rfl)) ?_; (with_reducible refine (spec_l02Turn.calls a1 a2 true _ A4.out).mono ?_); rintro e w' ⟨rfl, ⟨nd, rfl⟩⟩; refine ⟨_, rfl, ?_⟩; (try (rw [drewN_self w9]; generalize hq_ : World.drewN w9 _ = w9; have n0_ : Aside0 (w9.heap[gp0]? = some (.cells #[.int .i64 a0_0, .int .i64 a0_1, .int .i64 a0_2, .int .i64 a0_3, .int .i64 a0_4, .int .i64 a0_5, .int .i64 a0_6, .int .i64 a0_7, .int .i64 a0_8] 27 (0, 0))) := ⟨by rw [← hq_]; exact (by (with_reducible repeat (first | refine Zn ?_ _ | refine Zd ?_ | refine Za ?_ _)); exact BK0.out)⟩; have n1_ : Aside0 (w9.heap[gb319]? = some (.cells #[.int .i64 0, .int .i64 0, .int .i64 0, .int .i64 0, .int .i64 0, .int .i64 0, .int .i64 0, .int .i64 0, .int .i64 0] 27 (0, 0))) := ⟨by rw [← hq_]; exact (by (with_reducible repeat (first | refine Zn ?_ _ | refine Zd ?_ | refine Za ?_ _)); exact BK319.out)⟩; have n2_ : Aside0 (Below w.heap.size w w9) := ⟨by rw [← hq_]; exact (by repeat (first | (with_reducible first | exact HB.out | apply Zl | apply Zp | apply Ze | refine Zs ?_ GE0.out | refine Zs ?_ GE319.out) | exact HB.out))⟩; clear BK0 BK319 HB hq_; have BK0 := n0_; have BK319 := n1_; have HB := n2_; clear n0_ n1_ n2_))))
   have n0_ := Zm (Zd BK0.out)
   have n1_ := Zm (Zd BK319.out)
   have n2_ := Zm (Ze HB.out)
   clear BK0
   clear BK319
   clear HB
   have BK0 := n0_
   have BK319 := n1_
   have HB := n2_
   clear n0_ n1_ n2_
   refine start_ (n := 19) (S := fun w' => w'.cell? ⟨gp0, 0, none⟩ = some (.int .i64 a0_0) ∧ w'.cell? ⟨gp0, 1, none⟩ = some (.int .i64 a0_1) ∧ w'.cell? ⟨gp0, 2, none⟩ = some (.int .i64 a0_2) ∧ w'.cell? ⟨gp0, 3, none⟩ = some (.int .i64 a0_3) ∧ w'.cell? ⟨gp0, 4, none⟩ = some (.int .i64 a0_4) ∧ w'.cell? ⟨gp0, 5, none⟩ = some (.int .i64 a0_5) ∧ w'.cell? ⟨gp0, 6, none⟩ = some (.int .i64 a0_6) ∧ w'.cell? ⟨gp0, 7, none⟩ = some (.int .i64 a0_7) ∧ w'.cell? ⟨gp0, 8, none⟩ = some (.int .i64 a0_8)) (ds := []) #[false, false, false, false, false, false, false, false, false, false, false, false, false, false, false, false, false, false, false] (by kernel_rfl) rfl rfl ⟨(Zc BK0.out 0).trans rfl, (Zc BK0.out 1).trans rfl, (Zc BK0.out 2).trans rfl, (Zc BK0.out 3).trans rfl, (Zc BK0.out 4).trans rfl, (Zc BK0.out 5).trans rfl, (Zc BK0.out 6).trans rfl, (Zc BK0.out 7).trans rfl, (Zc BK0.out 8).trans rfl⟩ (fun hHeld => ?_); refine with_tabW spec_l04Push.tab3 spec_l04Push.bits3 (fun HT_ HW_ => ?_)
   generalize w9.drew = w10 at BK0 BK319 HB hHeld ⊢
   refine pure_ (i := 0) (N := some 14) (v := ?_) (a' := ?_) #[true, false, false, false, false, false, false, false, false, false, false, false, false, false, false, false, false, false, false] rfl rfl (any_of HT_.out (by kernel_rfl)) (fun _ _ _ h => h) (Or.inl ⟨by rfl, ?_⟩) ?_ ?_
   rotate_left
   ·intro w'
    go_simp
    with_reducible rfl
   rotate_left
   ·simp only [Act.put, List.setIfInBounds_toArray, List.set_cons_zero, List.set_cons_succ, i64_w, i32_w]
    rfl
   refine pure_ (i := 1) (N := some 15) (v := ?_) (a' := ?_) #[true, true, false, false, false, false, false, false, false, false, false, false, false, false, false, false, false, false, false] rfl rfl (any_of HT_.out (by kernel_rfl)) (fun _ _ _ h => h) (Or.inl ⟨by rfl, ?_⟩) ?_ ?_
   rotate_left
   ·intro w'
    go_simp
    with_reducible rfl
   rotate_left
   ·simp only [Act.put, List.setIfInBounds_toArray, List.set_cons_zero, List.set_cons_succ, i64_w, i32_w]
    rfl
   refine pure_ (i := 2) (N := some 16) (v := ?_) (a' := ?_) #[true, true, true, false, false, false, false, false, false, false, false, false, false, false, false, false, false, false, false] rfl rfl (any_of HT_.out (by kernel_rfl)) (fun _ _ _ h => h) (Or.inl ⟨by rfl, ?_⟩) ?_ ?_
   rotate_left
   ·intro w'
    go_simp
    with_reducible rfl
   rotate_left
   ·simp only [Act.put, List.setIfInBounds_toArray, List.set_cons_zero, List.set_cons_succ, i64_w, i32_w]
    rfl
   refine pure_ (i := 4) (N := some 18) (v := ?_) (a' := ?_) #[true, true, true, false, true, false, false, false, false, false, false, false, false, false, false, false, false, false, false] rfl rfl (any_of HT_.out (by kernel_rfl)) (fun _ _ _ h => h) (Or.inl ⟨by rfl, ?_⟩) ?_ ?_
   rotate_left
   ·intro w'
    go_simp
    with_reducible rfl
   rotate_left
   ·simp only [Act.put, List.setIfInBounds_toArray, List.set_cons_zero, List.set_cons_succ, i64_w, i32_w]
    rfl
   refine pure_ (i := 5) (N := some 19) (v := ?_) (a' := ?_) #[true, true, true, false, true, true, false, false, false, false, false, false, false, false, false, false, false, false, false] rfl rfl (any_of HT_.out (by kernel_rfl)) (fun _ _ _ h => h) (Or.inl ⟨by rfl, ?_⟩) ?_ ?_
   rotate_left
   ·intro w'
    go_simp
    with_reducible rfl
   rotate_left
   ·simp only [Act.put, List.setIfInBounds_toArray, List.set_cons_zero, List.set_cons_succ, i64_w, i32_w]
    rfl
   refine pure_ (i := 7) (N := some 21) (v := ?_) (a' := ?_) #[true, true, true, false, true, true, false, true, false, false, false, false, false, false, false, false, false, false, false] rfl rfl (any_of HT_.out (by kernel_rfl)) (fun _ _ _ h => h) (Or.inl ⟨by rfl, ?_⟩) ?_ ?_
   rotate_left
   ·intro w'
    go_simp
    with_reducible rfl
   rotate_left
   ·simp only [Act.put, List.setIfInBounds_toArray, List.set_cons_zero, List.set_cons_succ, i64_w, i32_w]
    rfl
   refine pure_ (i := 8) (N := some 22) (v := ?_) (a' := ?_) #[true, true, true, false, true, true, false, true, true, false, false, false, false, false, false, false, false, false, false] rfl rfl (any_of HT_.out (by kernel_rfl)) (fun _ _ _ h => h) (Or.inl ⟨by rfl, ?_⟩) ?_ ?_
   rotate_left
   ·intro w'
    go_simp
    with_reducible rfl
   rotate_left
   ·simp only [Act.put, List.setIfInBounds_toArray, List.set_cons_zero, List.set_cons_succ, i64_w, i32_w]
    rfl
   refine pure_ (i := 9) (N := some 23) (v := ?_) (a' := ?_) #[true, true, true, false, true, true, false, true, true, true, false, false, false, false, false, false, false, false, false] rfl rfl (any_of HT_.out (by kernel_rfl)) (fun _ _ _ h => h) (Or.inl ⟨by rfl, ?_⟩) ?_ ?_
   rotate_left
   ·intro w'
    go_simp
    with_reducible rfl
   rotate_left
   ·simp only [Act.put, List.setIfInBounds_toArray, List.set_cons_zero, List.set_cons_succ, i64_w, i32_w]
    rfl
   refine pure_ (i := 11) (N := some 25) (v := ?_) (a' := ?_) #[true, true, true, false, true, true, false, true, true, true, false, true, false, false, false, false, false, false, false] rfl rfl (any_of HT_.out (by kernel_rfl)) (fun _ _ _ h => h) (Or.inl ⟨by rfl, ?_⟩) ?_ ?_
   rotate_left
   ·intro w'
    go_simp
    with_reducible rfl
   rotate_left
   ·simp only [Act.put, List.setIfInBounds_toArray, List.set_cons_zero, List.set_cons_succ, i64_w, i32_w]
    rfl
   refine pure_ (i := 12) (N := some 26) (v := ?_) (a' := ?_) #[true, true, true, false, true, true, false, true, true, true, false, true, true, false, false, false, false, false, false] rfl rfl (any_of HT_.out (by kernel_rfl)) (fun _ _ _ h => h) (Or.inl ⟨by rfl, ?_⟩) ?_ ?_
   rotate_left
   ·intro w'
    go_simp
    with_reducible rfl
   rotate_left
   ·simp only [Act.put, List.setIfInBounds_toArray, List.set_cons_zero, List.set_cons_succ, i64_w, i32_w]
    rfl
   refine pure_ (i := 13) (N := some 27) (v := ?_) (a' := ?_) #[true, true, true, false, true, true, false, true, true, true, false, true, true, true, false, false, false, false, false] rfl rfl (any_of HT_.out (by kernel_rfl)) (fun _ _ _ h => h) (Or.inl ⟨by rfl, ?_⟩) ?_ ?_
   rotate_left
   ·intro w'
    go_simp
    with_reducible rfl
   rotate_left
   ·simp only [Act.put, List.setIfInBounds_toArray, List.set_cons_zero, List.set_cons_succ, i64_w, i32_w]
    rfl
   refine take_ (i := 3) (N := some 17) (v := ?_) (a' := ?_) #[true, true, true, true, true, true, false, true, true, true, false, true, true, true, false, false, false, false, false] rfl rfl (take_ofW HT_.out HW_.out (by kernel_rfl)) (fun _ _ _ h => h) (Or.inl ⟨by rfl, ?_⟩) hHeld ?_ ?_
   rotate_left
   ·rintro w' ⟨s0, s1, s2, s3, s4, s5, s6, s7, s8⟩
    go_simp
    with_reducible rfl
   rotate_left
   ·simp only [Act.put, List.setIfInBounds_toArray, List.set_cons_zero, List.set_cons_succ, i64_w, i32_w]
    rfl
   refine take_ (i := 10) (N := some 24) (v := ?_) (a' := ?_) #[true, true, true, true, true, true, false, true, true, true, true, true, true, true, false, false, false, false, false] rfl rfl (take_ofW HT_.out HW_.out (by kernel_rfl)) (fun _ _ _ h => h) (Or.inl ⟨by rfl, ?_⟩) hHeld ?_ ?_
   rotate_left
   ·rintro w' ⟨s0, s1, s2, s3, s4, s5, s6, s7, s8⟩
    go_simp
    with_reducible rfl
   rotate_left
   ·simp only [Act.put, List.setIfInBounds_toArray, List.set_cons_zero, List.set_cons_succ, i64_w, i32_w]
    rfl
   refine take_ (i := 14) (N := some 28) (v := ?_) (a' := ?_) #[true, true, true, true, true, true, false, true, true, true, true, true, true, true, true, false, false, false, false] rfl rfl (take_ofW HT_.out HW_.out (by kernel_rfl)) (fun _ _ _ h => h) (Or.inl ⟨by rfl, ?_⟩) hHeld ?_ ?_
   rotate_left
   ·rintro w' ⟨s0, s1, s2, s3, s4, s5, s6, s7, s8⟩
    go_simp
    with_reducible rfl
   rotate_left
   ·simp only [Act.put, List.setIfInBounds_toArray, List.set_cons_zero, List.set_cons_succ, i64_w, i32_w]
    rfl
   refine pure_ (i := 15) (N := some 29) (v := ?_) (a' := ?_) #[true, true, true, true, true, true, false, true, true, true, true, true, true, true, true, true, false, false, false] rfl rfl (any_of HT_.out (by kernel_rfl)) (fun _ _ _ h => h) (Or.inl ⟨by rfl, ?_⟩) ?_ ?_
   rotate_left
   ·intro w'
    go_simp
    with_reducible rfl
   rotate_left
   ·simp only [Act.put, List.setIfInBounds_toArray, List.set_cons_zero, List.set_cons_succ, i64_w, i32_w]
    rfl
   refine join_ (σ := Nat) 1 #[true, true, true, true, true, true, true, true, true, true, true, true, true, true, true, true, true, true, false] (fun s_ => [(20, .agg #[.int .i64 t321, .int .i64 t322, .int .i64 t323, .int .i64 t324]), (8, .pointer (some ⟨s_, 0, none⟩)), (30, .agg #[.int .i64 t321, .int .i64 t322, .int .i64 t323, .int .i64 t324, .int .i64 a0_4, .int .i64 a0_5, .int .i64 a0_6, .int .i64 a0_7, .int .i64 (wrap64 (a0_8 + 1500))])]) (fun s_ w' => (w'.cell? ⟨gp0, 0, none⟩ = some (.int .i64 a0_0) ∧ w'.cell? ⟨gp0, 1, none⟩ = some (.int .i64 a0_1) ∧ w'.cell? ⟨gp0, 2, none⟩ = some (.int .i64 a0_2) ∧ w'.cell? ⟨gp0, 3, none⟩ = some (.int .i64 a0_3) ∧ w'.cell? ⟨gp0, 4, none⟩ = some (.int .i64 a0_4) ∧ w'.cell? ⟨gp0, 5, none⟩ = some (.int .i64 a0_5) ∧ w'.cell? ⟨gp0, 6, none⟩ = some (.int .i64 a0_6) ∧ w'.cell? ⟨gp0, 7, none⟩ = some (.int .i64 a0_7) ∧ w'.cell? ⟨gp0, 8, none⟩ = some (.int .i64 a0_8)) ∧ (w'.heap[gp0]? = some (.cells #[.int .i64 a0_0, .int .i64 a0_1, .int .i64 a0_2, .int .i64 a0_3, .int .i64 a0_4, .int .i64 a0_5, .int .i64 a0_6, .int .i64 a0_7, .int .i64 a0_8] 27 (0, 0))) ∧ (w'.heap[gb319]? = some (.cells #[.int .i64 0, .int .i64 0, .int .i64 0, .int .i64 0, .int .i64 0, .int .i64 0, .int .i64 0, .int .i64 0, .int .i64 0] 27 (0, 0))) ∧ (w'.heap[s_]? = some (.cells #[.int .i64 0, .int .i64 0, .int .i64 0, .int .i64 0, .int .i64 0, .int .i64 0, .int .i64 0, .int .i64 0, .int .i64 0] 27 (0, 0))) ∧ (w.heap.size ≤ s_) ∧ (w.heap.size ≤ s_) ∧ (gp0 ≠ s_) ∧ (s_ ≠ gp0) ∧ (gb319 ≠ s_) ∧ (s_ ≠ gb319) ∧ (Below w.heap.size w w')) ?_ ?_
   rotate_left
   ·intro hCont
    refine two_ (i := 6) (j := 17) (Ni := some 20) (Nj := some 8) #[true, true, true, true, true, true, true, true, true, true, true, true, true, true, true, true, false, false, false] #[true, true, true, true, true, true, false, true, true, true, true, true, true, true, true, true, false, true, false] rfl rfl rfl rfl (two_of HT_.out (by kernel_rfl)) (by decide) (by decide) (fun K hK => ?_) (fun K hK => ?_)
    ·skip
     refine goes_ Try.func86 (by kernel_rfl) rfl #[.agg #[.int .i64 a0_0, .int .i64 a0_1, .int .i64 a0_2, .int .i64 a0_3], .int .i64 a1, .int .i64 a2] (by rfl) rfl rfl (by (try simp only [List.map_toArray, List.map_cons, List.map_nil]); first | done | rfl | (simp only [List.length_drop, List.length_take]; rfl)) ?_
     with_reducible refine (spec_l02Next.calls a0_0 a0_1 a0_2 a0_3 a1 a2 t321 t322 t323 t324 _ A6.out).mono ?_
     rintro e w11 ⟨rfl, hb⟩
     refine ⟨_, rfl, ?_⟩
     have n0_ := Zm (blk_below (g := gp0) (o := .cells #[.int .i64 a0_0, .int .i64 a0_1, .int .i64 a0_2, .int .i64 a0_3, .int .i64 a0_4, .int .i64 a0_5, .int .i64 a0_6, .int .i64 a0_7, .int .i64 a0_8] 27 (0, 0)) (by (with_reducible repeat (first | refine Zn ?_ _ | refine Zd ?_ | refine Za ?_ _)); exact BK0.out) hb)
     have n1_ := Zm (blk_below (g := gb319) (o := .cells #[.int .i64 0, .int .i64 0, .int .i64 0, .int .i64 0, .int .i64 0, .int .i64 0, .int .i64 0, .int .i64 0, .int .i64 0] 27 (0, 0)) (by (with_reducible repeat (first | refine Zn ?_ _ | refine Zd ?_ | refine Za ?_ _)); exact BK319.out) hb)
     have n2_ := Zm (below_step (by repeat (first | (with_reducible first | exact HB.out | apply Zl | apply Zp | apply Ze | refine Zs ?_ GE0.out | refine Zs ?_ GE319.out) | exact HB.out)) hb)
     clear BK0
     clear BK319
     clear HB
     have BK0 := n0_
     have BK319 := n1_
     have HB := n2_
     clear n0_ n1_ n2_
     (try clear hb)
     (try clear hb2)
     (try clear hk)
     (try clear hi)
     refine hK.out _ _ ⟨(Zc BK0.out 0).trans rfl, (Zc BK0.out 1).trans rfl, (Zc BK0.out 2).trans rfl, (Zc BK0.out 3).trans rfl, (Zc BK0.out 4).trans rfl, (Zc BK0.out 5).trans rfl, (Zc BK0.out 6).trans rfl, (Zc BK0.out 7).trans rfl, (Zc BK0.out 8).trans rfl⟩ (fun hHeld => ?_)
     clear hK K
     refine norm_ (a' := ?_) ?_ ?_
     rotate_left
     ·show Act.put _ (some 20) _ = _
      simp only [Act.put, List.setIfInBounds_toArray, List.set_cons_zero, List.set_cons_succ, i64_w, i32_w]
      rfl
     refine pure_ (i := 16) (N := some 30) (v := ?_) (a' := ?_) #[true, true, true, true, true, true, true, true, true, true, true, true, true, true, true, true, true, false, false] rfl rfl (any_of HT_.out (by kernel_rfl)) (fun _ _ _ h => h) (Or.inl ⟨by rfl, ?_⟩) ?_ ?_
     rotate_left
     ·intro w'
      go_simp
      with_reducible rfl
     rotate_left
     ·simp only [Act.put, List.setIfInBounds_toArray, List.set_cons_zero, List.set_cons_succ, i64_w, i32_w]
      rfl
     refine one_ (i := 17) (N := some 8) #[true, true, true, true, true, true, true, true, true, true, true, true, true, true, true, true, true, true, false] rfl rfl (one_of HT_.out (by kernel_rfl)) (by decide) (fun K hK => ?_)
     refine box_step ?hg (N := 8) ?hd (cs := #[.int .i64 0, .int .i64 0, .int .i64 0, .int .i64 0, .int .i64 0, .int .i64 0, .int .i64 0, .int .i64 0, .int .i64 0]) (t := 27) ?hr ?_; (case hd => rfl); (case hg => rfl); (case hr => first | (go_simp; done) | (go_simp; rfl))
     intro gb325 hg w12 hbox hb
     have n0_ := Zm (blk_below (g := gp0) (o := .cells #[.int .i64 a0_0, .int .i64 a0_1, .int .i64 a0_2, .int .i64 a0_3, .int .i64 a0_4, .int .i64 a0_5, .int .i64 a0_6, .int .i64 a0_7, .int .i64 a0_8] 27 (0, 0)) (by (with_reducible repeat (first | refine Zn ?_ _ | refine Zd ?_ | refine Za ?_ _)); exact BK0.out) hb)
     have n1_ := Zm (blk_below (g := gb319) (o := .cells #[.int .i64 0, .int .i64 0, .int .i64 0, .int .i64 0, .int .i64 0, .int .i64 0, .int .i64 0, .int .i64 0, .int .i64 0] 27 (0, 0)) (by (with_reducible repeat (first | refine Zn ?_ _ | refine Zd ?_ | refine Za ?_ _)); exact BK319.out) hb)
     have n2_ := Zm (below_step (by repeat (first | (with_reducible first | exact HB.out | apply Zl | apply Zp | apply Ze | refine Zs ?_ GE0.out | refine Zs ?_ GE319.out) | exact HB.out)) hb)
     have n3_ := Zm (hbox)
     have n4_ := Zm ((by rw [hg]; exact (below_size (by repeat (first | (with_reducible first | exact HB.out | apply Zl | apply Zp | apply Ze | refine Zs ?_ GE0.out | refine Zs ?_ GE319.out) | exact HB.out))) : w.heap.size ≤ gb325))
     have n5_ := Zm ((by rw [hg]; exact (below_size (by repeat (first | (with_reducible first | exact HB.out | apply Zl | apply Zp | apply Ze | refine Zs ?_ GE0.out | refine Zs ?_ GE319.out) | exact HB.out))) : w.heap.size ≤ gb325))
     have n6_ := Zm ((by rw [hg]; exact Nat.ne_of_lt (blk_lt (g := gp0) (o := .cells #[.int .i64 a0_0, .int .i64 a0_1, .int .i64 a0_2, .int .i64 a0_3, .int .i64 a0_4, .int .i64 a0_5, .int .i64 a0_6, .int .i64 a0_7, .int .i64 a0_8] 27 (0, 0)) (by (with_reducible repeat (first | refine Zn ?_ _ | refine Zd ?_ | refine Za ?_ _)); exact BK0.out)) : gp0 ≠ gb325))
     have n7_ := Zm ((by rw [hg]; exact Nat.ne_of_gt (blk_lt (g := gp0) (o := .cells #[.int .i64 a0_0, .int .i64 a0_1, .int .i64 a0_2, .int .i64 a0_3, .int .i64 a0_4, .int .i64 a0_5, .int .i64 a0_6, .int .i64 a0_7, .int .i64 a0_8] 27 (0, 0)) (by (with_reducible repeat (first | refine Zn ?_ _ | refine Zd ?_ | refine Za ?_ _)); exact BK0.out)) : gb325 ≠ gp0))
     have n8_ := Zm ((by rw [hg]; exact Nat.ne_of_lt (blk_lt (g := gb319) (o := .cells #[.int .i64 0, .int .i64 0, .int .i64 0, .int .i64 0, .int .i64 0, .int .i64 0, .int .i64 0, .int .i64 0, .int .i64 0] 27 (0, 0)) (by (with_reducible repeat (first | refine Zn ?_ _ | refine Zd ?_ | refine Za ?_ _)); exact BK319.out)) : gb319 ≠ gb325))
     have n9_ := Zm ((by rw [hg]; exact Nat.ne_of_gt (blk_lt (g := gb319) (o := .cells #[.int .i64 0, .int .i64 0, .int .i64 0, .int .i64 0, .int .i64 0, .int .i64 0, .int .i64 0, .int .i64 0, .int .i64 0] 27 (0, 0)) (by (with_reducible repeat (first | refine Zn ?_ _ | refine Zd ?_ | refine Za ?_ _)); exact BK319.out)) : gb325 ≠ gb319))
     clear BK0
     clear BK319
     clear HB
     have BK0 := n0_
     have BK319 := n1_
     have HB := n2_
     have BK325 := n3_
     have GW325 := n4_
     have GE325 := n5_
     have NB0_325 := n6_
     have NB325_0 := n7_
     have NB319_325 := n8_
     have NB325_319 := n9_
     clear n0_ n1_ n2_ n3_ n4_ n5_ n6_ n7_ n8_ n9_
     clear hb hbox hg
     refine hK.out _ _ ⟨(Zc BK0.out 0).trans rfl, (Zc BK0.out 1).trans rfl, (Zc BK0.out 2).trans rfl, (Zc BK0.out 3).trans rfl, (Zc BK0.out 4).trans rfl, (Zc BK0.out 5).trans rfl, (Zc BK0.out 6).trans rfl, (Zc BK0.out 7).trans rfl, (Zc BK0.out 8).trans rfl⟩ (fun hHeld => ?_)
     clear hK K
     refine norm_ (a' := ?_) ?_ ?_
     rotate_left
     ·show Act.put _ (some 8) _ = _
      simp only [Act.put, List.setIfInBounds_toArray, List.set_cons_zero, List.set_cons_succ, i64_w, i32_w]
      rfl
     exact norm_ (by simp only [putAll, Act.put, List.setIfInBounds_toArray, List.set_cons_zero, List.set_cons_succ]) (hCont (gb325) _ ⟨hHeld, (by (with_reducible repeat (first | refine Zn ?_ _ | refine Zd ?_ | refine Za ?_ _)); exact BK0.out), (by (with_reducible repeat (first | refine Zn ?_ _ | refine Zd ?_ | refine Za ?_ _)); exact BK319.out), (by (with_reducible repeat (first | refine Zn ?_ _ | refine Zd ?_ | refine Za ?_ _)); exact BK325.out), GW325.out, GE325.out, NB0_325.out, NB325_0.out, NB319_325.out, NB325_319.out, (by repeat (first | (with_reducible first | exact HB.out | apply Zl | apply Zp | apply Ze | refine Zs ?_ GE0.out | refine Zs ?_ GE319.out | refine Zs ?_ GE325.out) | exact HB.out))⟩)
    ·skip
     refine box_step ?hg (N := 8) ?hd (cs := #[.int .i64 0, .int .i64 0, .int .i64 0, .int .i64 0, .int .i64 0, .int .i64 0, .int .i64 0, .int .i64 0, .int .i64 0]) (t := 27) ?hr ?_; (case hd => rfl); (case hg => rfl); (case hr => first | (go_simp; done) | (go_simp; rfl))
     intro gb325 hg w11 hbox hb
     have n0_ := Zm (blk_below (g := gp0) (o := .cells #[.int .i64 a0_0, .int .i64 a0_1, .int .i64 a0_2, .int .i64 a0_3, .int .i64 a0_4, .int .i64 a0_5, .int .i64 a0_6, .int .i64 a0_7, .int .i64 a0_8] 27 (0, 0)) (by (with_reducible repeat (first | refine Zn ?_ _ | refine Zd ?_ | refine Za ?_ _)); exact BK0.out) hb)
     have n1_ := Zm (blk_below (g := gb319) (o := .cells #[.int .i64 0, .int .i64 0, .int .i64 0, .int .i64 0, .int .i64 0, .int .i64 0, .int .i64 0, .int .i64 0, .int .i64 0] 27 (0, 0)) (by (with_reducible repeat (first | refine Zn ?_ _ | refine Zd ?_ | refine Za ?_ _)); exact BK319.out) hb)
     have n2_ := Zm (below_step (by repeat (first | (with_reducible first | exact HB.out | apply Zl | apply Zp | apply Ze | refine Zs ?_ GE0.out | refine Zs ?_ GE319.out) | exact HB.out)) hb)
     have n3_ := Zm (hbox)
     have n4_ := Zm ((by rw [hg]; exact (below_size (by repeat (first | (with_reducible first | exact HB.out | apply Zl | apply Zp | apply Ze | refine Zs ?_ GE0.out | refine Zs ?_ GE319.out) | exact HB.out))) : w.heap.size ≤ gb325))
     have n5_ := Zm ((by rw [hg]; exact (below_size (by repeat (first | (with_reducible first | exact HB.out | apply Zl | apply Zp | apply Ze | refine Zs ?_ GE0.out | refine Zs ?_ GE319.out) | exact HB.out))) : w.heap.size ≤ gb325))
     have n6_ := Zm ((by rw [hg]; exact Nat.ne_of_lt (blk_lt (g := gp0) (o := .cells #[.int .i64 a0_0, .int .i64 a0_1, .int .i64 a0_2, .int .i64 a0_3, .int .i64 a0_4, .int .i64 a0_5, .int .i64 a0_6, .int .i64 a0_7, .int .i64 a0_8] 27 (0, 0)) (by (with_reducible repeat (first | refine Zn ?_ _ | refine Zd ?_ | refine Za ?_ _)); exact BK0.out)) : gp0 ≠ gb325))
     have n7_ := Zm ((by rw [hg]; exact Nat.ne_of_gt (blk_lt (g := gp0) (o := .cells #[.int .i64 a0_0, .int .i64 a0_1, .int .i64 a0_2, .int .i64 a0_3, .int .i64 a0_4, .int .i64 a0_5, .int .i64 a0_6, .int .i64 a0_7, .int .i64 a0_8] 27 (0, 0)) (by (with_reducible repeat (first | refine Zn ?_ _ | refine Zd ?_ | refine Za ?_ _)); exact BK0.out)) : gb325 ≠ gp0))
     have n8_ := Zm ((by rw [hg]; exact Nat.ne_of_lt (blk_lt (g := gb319) (o := .cells #[.int .i64 0, .int .i64 0, .int .i64 0, .int .i64 0, .int .i64 0, .int .i64 0, .int .i64 0, .int .i64 0, .int .i64 0] 27 (0, 0)) (by (with_reducible repeat (first | refine Zn ?_ _ | refine Zd ?_ | refine Za ?_ _)); exact BK319.out)) : gb319 ≠ gb325))
     have n9_ := Zm ((by rw [hg]; exact Nat.ne_of_gt (blk_lt (g := gb319) (o := .cells #[.int .i64 0, .int .i64 0, .int .i64 0, .int .i64 0, .int .i64 0, .int .i64 0, .int .i64 0, .int .i64 0, .int .i64 0] 27 (0, 0)) (by (with_reducible repeat (first | refine Zn ?_ _ | refine Zd ?_ | refine Za ?_ _)); exact BK319.out)) : gb325 ≠ gb319))
     clear BK0
     clear BK319
     clear HB
     have BK0 := n0_
     have BK319 := n1_
     have HB := n2_
     have BK325 := n3_
     have GW325 := n4_
     have GE325 := n5_
     have NB0_325 := n6_
     have NB325_0 := n7_
     have NB319_325 := n8_
     have NB325_319 := n9_
     clear n0_ n1_ n2_ n3_ n4_ n5_ n6_ n7_ n8_ n9_
     clear hb hbox hg
     refine hK.out _ _ ⟨(Zc BK0.out 0).trans rfl, (Zc BK0.out 1).trans rfl, (Zc BK0.out 2).trans rfl, (Zc BK0.out 3).trans rfl, (Zc BK0.out 4).trans rfl, (Zc BK0.out 5).trans rfl, (Zc BK0.out 6).trans rfl, (Zc BK0.out 7).trans rfl, (Zc BK0.out 8).trans rfl⟩ (fun hHeld => ?_)
     clear hK K
     refine norm_ (a' := ?_) ?_ ?_
     rotate_left
     ·show Act.put _ (some 8) _ = _
      simp only [Act.put, List.setIfInBounds_toArray, List.set_cons_zero, List.set_cons_succ, i64_w, i32_w]
      rfl
     refine one_ (i := 6) (N := some 20) #[true, true, true, true, true, true, true, true, true, true, true, true, true, true, true, true, false, true, false] rfl rfl (one_of HT_.out (by kernel_rfl)) (by decide) (fun K hK => ?_)
     refine goes_ Try.func86 (by kernel_rfl) rfl #[.agg #[.int .i64 a0_0, .int .i64 a0_1, .int .i64 a0_2, .int .i64 a0_3], .int .i64 a1, .int .i64 a2] (by rfl) rfl rfl (by (try simp only [List.map_toArray, List.map_cons, List.map_nil]); first | done | rfl | (simp only [List.length_drop, List.length_take]; rfl)) ?_
     with_reducible refine (spec_l02Next.calls a0_0 a0_1 a0_2 a0_3 a1 a2 t321 t322 t323 t324 _ A6.out).mono ?_
     rintro e w12 ⟨rfl, hb⟩
     refine ⟨_, rfl, ?_⟩
     have n0_ := Zm (blk_below (g := gp0) (o := .cells #[.int .i64 a0_0, .int .i64 a0_1, .int .i64 a0_2, .int .i64 a0_3, .int .i64 a0_4, .int .i64 a0_5, .int .i64 a0_6, .int .i64 a0_7, .int .i64 a0_8] 27 (0, 0)) (by (with_reducible repeat (first | refine Zn ?_ _ | refine Zd ?_ | refine Za ?_ _)); exact BK0.out) hb)
     have n1_ := Zm (blk_below (g := gb319) (o := .cells #[.int .i64 0, .int .i64 0, .int .i64 0, .int .i64 0, .int .i64 0, .int .i64 0, .int .i64 0, .int .i64 0, .int .i64 0] 27 (0, 0)) (by (with_reducible repeat (first | refine Zn ?_ _ | refine Zd ?_ | refine Za ?_ _)); exact BK319.out) hb)
     have n2_ := Zm (blk_below (g := gb325) (o := .cells #[.int .i64 0, .int .i64 0, .int .i64 0, .int .i64 0, .int .i64 0, .int .i64 0, .int .i64 0, .int .i64 0, .int .i64 0] 27 (0, 0)) (by (with_reducible repeat (first | refine Zn ?_ _ | refine Zd ?_ | refine Za ?_ _)); exact BK325.out) hb)
     have n3_ := Zm (below_step (by repeat (first | (with_reducible first | exact HB.out | apply Zl | apply Zp | apply Ze | refine Zs ?_ GE0.out | refine Zs ?_ GE319.out | refine Zs ?_ GE325.out) | exact HB.out)) hb)
     clear BK0
     clear BK319
     clear BK325
     clear HB
     have BK0 := n0_
     have BK319 := n1_
     have BK325 := n2_
     have HB := n3_
     clear n0_ n1_ n2_ n3_
     (try clear hb)
     (try clear hb2)
     (try clear hk)
     (try clear hi)
     refine hK.out _ _ ⟨(Zc BK0.out 0).trans rfl, (Zc BK0.out 1).trans rfl, (Zc BK0.out 2).trans rfl, (Zc BK0.out 3).trans rfl, (Zc BK0.out 4).trans rfl, (Zc BK0.out 5).trans rfl, (Zc BK0.out 6).trans rfl, (Zc BK0.out 7).trans rfl, (Zc BK0.out 8).trans rfl⟩ (fun hHeld => ?_)
     clear hK K
     refine norm_ (a' := ?_) ?_ ?_
     rotate_left
     ·show Act.put _ (some 20) _ = _
      simp only [Act.put, List.setIfInBounds_toArray, List.set_cons_zero, List.set_cons_succ, i64_w, i32_w]
      rfl
     refine pure_ (i := 16) (N := some 30) (v := ?_) (a' := ?_) #[true, true, true, true, true, true, true, true, true, true, true, true, true, true, true, true, true, true, false] rfl rfl (any_of HT_.out (by kernel_rfl)) (fun _ _ _ h => h) (Or.inl ⟨by rfl, ?_⟩) ?_ ?_
     rotate_left
     ·intro w'
      go_simp
      with_reducible rfl
     rotate_left
     ·simp only [Act.put, List.setIfInBounds_toArray, List.set_cons_zero, List.set_cons_succ, i64_w, i32_w]
      rfl
     exact norm_ (by simp only [putAll, Act.put, List.setIfInBounds_toArray, List.set_cons_zero, List.set_cons_succ]) (hCont (gb325) _ ⟨hHeld, (by (with_reducible repeat (first | refine Zn ?_ _ | refine Zd ?_ | refine Za ?_ _)); exact BK0.out), (by (with_reducible repeat (first | refine Zn ?_ _ | refine Zd ?_ | refine Za ?_ _)); exact BK319.out), (by (with_reducible repeat (first | refine Zn ?_ _ | refine Zd ?_ | refine Za ?_ _)); exact BK325.out), GW325.out, GE325.out, NB0_325.out, NB325_0.out, NB319_325.out, NB325_319.out, (by repeat (first | (with_reducible first | exact HB.out | apply Zl | apply Zp | apply Ze | refine Zs ?_ GE0.out | refine Zs ?_ GE319.out | refine Zs ?_ GE325.out) | exact HB.out))⟩)
   rintro gb325 w13 ⟨hS_, h0_, h1_, h2_, h3_, h4_, h5_, h6_, h7_, h8_, h9_⟩
   have n0_ : Aside0 (w13.heap[gp0]? = some (.cells #[.int .i64 a0_0, .int .i64 a0_1, .int .i64 a0_2, .int .i64 a0_3, .int .i64 a0_4, .int .i64 a0_5, .int .i64 a0_6, .int .i64 a0_7, .int .i64 a0_8] 27 (0, 0))) := ⟨h0_⟩
   have n1_ : Aside0 (w13.heap[gb319]? = some (.cells #[.int .i64 0, .int .i64 0, .int .i64 0, .int .i64 0, .int .i64 0, .int .i64 0, .int .i64 0, .int .i64 0, .int .i64 0] 27 (0, 0))) := ⟨h1_⟩
   have n2_ : Aside0 (w13.heap[gb325]? = some (.cells #[.int .i64 0, .int .i64 0, .int .i64 0, .int .i64 0, .int .i64 0, .int .i64 0, .int .i64 0, .int .i64 0, .int .i64 0] 27 (0, 0))) := ⟨h2_⟩
   have n3_ : Aside0 (w.heap.size ≤ gb325) := ⟨h3_⟩
   have n4_ : Aside0 (w.heap.size ≤ gb325) := ⟨h4_⟩
   have n5_ : Aside0 (gp0 ≠ gb325) := ⟨h5_⟩
   have n6_ : Aside0 (gb325 ≠ gp0) := ⟨h6_⟩
   have n7_ : Aside0 (gb319 ≠ gb325) := ⟨h7_⟩
   have n8_ : Aside0 (gb325 ≠ gb319) := ⟨h8_⟩
   have n9_ : Aside0 (Below w.heap.size w w13) := ⟨h9_⟩
   clear BK0
   clear BK319
   clear HB
   clear h0_ h1_ h2_ h3_ h4_ h5_ h6_ h7_ h8_ h9_
   have BK0 := n0_
   have BK319 := n1_
   have BK325 := n2_
   have GW325 := n3_
   have GE325 := n4_
   have NB0_325 := n5_
   have NB325_0 := n6_
   have NB319_325 := n7_
   have NB325_319 := n8_
   have HB := n9_
   clear n0_ n1_ n2_ n3_ n4_ n5_ n6_ n7_ n8_ n9_
   have hHeld : w13.cell? ⟨gp0, 0, none⟩ = some (.int .i64 a0_0) ∧ w13.cell? ⟨gp0, 1, none⟩ = some (.int .i64 a0_1) ∧ w13.cell? ⟨gp0, 2, none⟩ = some (.int .i64 a0_2) ∧ w13.cell? ⟨gp0, 3, none⟩ = some (.int .i64 a0_3) ∧ w13.cell? ⟨gp0, 4, none⟩ = some (.int .i64 a0_4) ∧ w13.cell? ⟨gp0, 5, none⟩ = some (.int .i64 a0_5) ∧ w13.cell? ⟨gp0, 6, none⟩ = some (.int .i64 a0_6) ∧ w13.cell? ⟨gp0, 7, none⟩ = some (.int .i64 a0_7) ∧ w13.cell? ⟨gp0, 8, none⟩ = some (.int .i64 a0_8) := hS_
   refine norm_ (a' := ?_) ?_ ?_
   rotate_left
   ·simp only [putAll, Act.put, List.setIfInBounds_toArray, List.set_cons_zero, List.set_cons_succ]
    rfl
   refine one_ (i := 18) (N := none) #[true, true, true, true, true, true, true, true, true, true, true, true, true, true, true, true, true, true, true] rfl rfl (one_of HT_.out (by kernel_rfl)) (by decide) (fun K hK => ?_)
   have hs14 : w13.cell? ⟨gb325, 0, none⟩ = some (.int .i64 0) := (Zc BK325.out 0).trans rfl
   have hfs14 := Zf BK325.out 0
   have hns14_0 := NB0_325.out
   have hns14_1 := NB319_325.out
   have hms14_0 := NB325_0.out
   have hms14_1 := NB325_319.out
   have hs15 : w13.cell? ⟨gb325, 1, none⟩ = some (.int .i64 0) := (Zc BK325.out 1).trans rfl
   have hfs15 := Zf BK325.out 1
   have hns15_0 := NB0_325.out
   have hns15_1 := NB319_325.out
   have hms15_0 := NB325_0.out
   have hms15_1 := NB325_319.out
   have hs16 : w13.cell? ⟨gb325, 2, none⟩ = some (.int .i64 0) := (Zc BK325.out 2).trans rfl
   have hfs16 := Zf BK325.out 2
   have hns16_0 := NB0_325.out
   have hns16_1 := NB319_325.out
   have hms16_0 := NB325_0.out
   have hms16_1 := NB325_319.out
   have hs17 : w13.cell? ⟨gb325, 3, none⟩ = some (.int .i64 0) := (Zc BK325.out 3).trans rfl
   have hfs17 := Zf BK325.out 3
   have hns17_0 := NB0_325.out
   have hns17_1 := NB319_325.out
   have hms17_0 := NB325_0.out
   have hms17_1 := NB325_319.out
   have hs18 : w13.cell? ⟨gb325, 4, none⟩ = some (.int .i64 0) := (Zc BK325.out 4).trans rfl
   have hfs18 := Zf BK325.out 4
   have hns18_0 := NB0_325.out
   have hns18_1 := NB319_325.out
   have hms18_0 := NB325_0.out
   have hms18_1 := NB325_319.out
   have hs19 : w13.cell? ⟨gb325, 5, none⟩ = some (.int .i64 0) := (Zc BK325.out 5).trans rfl
   have hfs19 := Zf BK325.out 5
   have hns19_0 := NB0_325.out
   have hns19_1 := NB319_325.out
   have hms19_0 := NB325_0.out
   have hms19_1 := NB325_319.out
   have hs20 : w13.cell? ⟨gb325, 6, none⟩ = some (.int .i64 0) := (Zc BK325.out 6).trans rfl
   have hfs20 := Zf BK325.out 6
   have hns20_0 := NB0_325.out
   have hns20_1 := NB319_325.out
   have hms20_0 := NB325_0.out
   have hms20_1 := NB325_319.out
   have hs21 : w13.cell? ⟨gb325, 7, none⟩ = some (.int .i64 0) := (Zc BK325.out 7).trans rfl
   have hfs21 := Zf BK325.out 7
   have hns21_0 := NB0_325.out
   have hns21_1 := NB319_325.out
   have hms21_0 := NB325_0.out
   have hms21_1 := NB325_319.out
   have hs22 : w13.cell? ⟨gb325, 8, none⟩ = some (.int .i64 0) := (Zc BK325.out 8).trans rfl
   have hfs22 := Zf BK325.out 8
   have hns22_0 := NB0_325.out
   have hns22_1 := NB319_325.out
   have hms22_0 := NB325_0.out
   have hms22_1 := NB325_319.out
   refine skip_ (w1 := ?_) (by rfl) rfl ?_ ?_
   rotate_left
   ·go_simp
    rfl
   refine hK.out _ _ ⟨((cell_far (p := ⟨gb325, _, none⟩) NB0_325.out _).trans (((cell_far (p := ⟨gb325, _, none⟩) NB0_325.out _).trans (((cell_far (p := ⟨gb325, _, none⟩) NB0_325.out _).trans (((cell_far (p := ⟨gb325, _, none⟩) NB0_325.out _).trans (((cell_far (p := ⟨gb325, _, none⟩) NB0_325.out _).trans (((cell_far (p := ⟨gb325, _, none⟩) NB0_325.out _).trans (((cell_far (p := ⟨gb325, _, none⟩) NB0_325.out _).trans (((cell_far (p := ⟨gb325, _, none⟩) NB0_325.out _).trans (((cell_far (p := ⟨gb325, _, none⟩) NB0_325.out _).trans (hHeld.1)))))))))))))))))), ((cell_far (p := ⟨gb325, _, none⟩) NB0_325.out _).trans (((cell_far (p := ⟨gb325, _, none⟩) NB0_325.out _).trans (((cell_far (p := ⟨gb325, _, none⟩) NB0_325.out _).trans (((cell_far (p := ⟨gb325, _, none⟩) NB0_325.out _).trans (((cell_far (p := ⟨gb325, _, none⟩) NB0_325.out _).trans (((cell_far (p := ⟨gb325, _, none⟩) NB0_325.out _).trans (((cell_far (p := ⟨gb325, _, none⟩) NB0_325.out _).trans (((cell_far (p := ⟨gb325, _, none⟩) NB0_325.out _).trans (((cell_far (p := ⟨gb325, _, none⟩) NB0_325.out _).trans (hHeld.2.1)))))))))))))))))), ((cell_far (p := ⟨gb325, _, none⟩) NB0_325.out _).trans (((cell_far (p := ⟨gb325, _, none⟩) NB0_325.out _).trans (((cell_far (p := ⟨gb325, _, none⟩) NB0_325.out _).trans (((cell_far (p := ⟨gb325, _, none⟩) NB0_325.out _).trans (((cell_far (p := ⟨gb325, _, none⟩) NB0_325.out _).trans (((cell_far (p := ⟨gb325, _, none⟩) NB0_325.out _).trans (((cell_far (p := ⟨gb325, _, none⟩) NB0_325.out _).trans (((cell_far (p := ⟨gb325, _, none⟩) NB0_325.out _).trans (((cell_far (p := ⟨gb325, _, none⟩) NB0_325.out _).trans (hHeld.2.2.1)))))))))))))))))), ((cell_far (p := ⟨gb325, _, none⟩) NB0_325.out _).trans (((cell_far (p := ⟨gb325, _, none⟩) NB0_325.out _).trans (((cell_far (p := ⟨gb325, _, none⟩) NB0_325.out _).trans (((cell_far (p := ⟨gb325, _, none⟩) NB0_325.out _).trans (((cell_far (p := ⟨gb325, _, none⟩) NB0_325.out _).trans (((cell_far (p := ⟨gb325, _, none⟩) NB0_325.out _).trans (((cell_far (p := ⟨gb325, _, none⟩) NB0_325.out _).trans (((cell_far (p := ⟨gb325, _, none⟩) NB0_325.out _).trans (((cell_far (p := ⟨gb325, _, none⟩) NB0_325.out _).trans (hHeld.2.2.2.1)))))))))))))))))), ((cell_far (p := ⟨gb325, _, none⟩) NB0_325.out _).trans (((cell_far (p := ⟨gb325, _, none⟩) NB0_325.out _).trans (((cell_far (p := ⟨gb325, _, none⟩) NB0_325.out _).trans (((cell_far (p := ⟨gb325, _, none⟩) NB0_325.out _).trans (((cell_far (p := ⟨gb325, _, none⟩) NB0_325.out _).trans (((cell_far (p := ⟨gb325, _, none⟩) NB0_325.out _).trans (((cell_far (p := ⟨gb325, _, none⟩) NB0_325.out _).trans (((cell_far (p := ⟨gb325, _, none⟩) NB0_325.out _).trans (((cell_far (p := ⟨gb325, _, none⟩) NB0_325.out _).trans (hHeld.2.2.2.2.1)))))))))))))))))), ((cell_far (p := ⟨gb325, _, none⟩) NB0_325.out _).trans (((cell_far (p := ⟨gb325, _, none⟩) NB0_325.out _).trans (((cell_far (p := ⟨gb325, _, none⟩) NB0_325.out _).trans (((cell_far (p := ⟨gb325, _, none⟩) NB0_325.out _).trans (((cell_far (p := ⟨gb325, _, none⟩) NB0_325.out _).trans (((cell_far (p := ⟨gb325, _, none⟩) NB0_325.out _).trans (((cell_far (p := ⟨gb325, _, none⟩) NB0_325.out _).trans (((cell_far (p := ⟨gb325, _, none⟩) NB0_325.out _).trans (((cell_far (p := ⟨gb325, _, none⟩) NB0_325.out _).trans (hHeld.2.2.2.2.2.1)))))))))))))))))), ((cell_far (p := ⟨gb325, _, none⟩) NB0_325.out _).trans (((cell_far (p := ⟨gb325, _, none⟩) NB0_325.out _).trans (((cell_far (p := ⟨gb325, _, none⟩) NB0_325.out _).trans (((cell_far (p := ⟨gb325, _, none⟩) NB0_325.out _).trans (((cell_far (p := ⟨gb325, _, none⟩) NB0_325.out _).trans (((cell_far (p := ⟨gb325, _, none⟩) NB0_325.out _).trans (((cell_far (p := ⟨gb325, _, none⟩) NB0_325.out _).trans (((cell_far (p := ⟨gb325, _, none⟩) NB0_325.out _).trans (((cell_far (p := ⟨gb325, _, none⟩) NB0_325.out _).trans (hHeld.2.2.2.2.2.2.1)))))))))))))))))), ((cell_far (p := ⟨gb325, _, none⟩) NB0_325.out _).trans (((cell_far (p := ⟨gb325, _, none⟩) NB0_325.out _).trans (((cell_far (p := ⟨gb325, _, none⟩) NB0_325.out _).trans (((cell_far (p := ⟨gb325, _, none⟩) NB0_325.out _).trans (((cell_far (p := ⟨gb325, _, none⟩) NB0_325.out _).trans (((cell_far (p := ⟨gb325, _, none⟩) NB0_325.out _).trans (((cell_far (p := ⟨gb325, _, none⟩) NB0_325.out _).trans (((cell_far (p := ⟨gb325, _, none⟩) NB0_325.out _).trans (((cell_far (p := ⟨gb325, _, none⟩) NB0_325.out _).trans (hHeld.2.2.2.2.2.2.2.1)))))))))))))))))), ((cell_far (p := ⟨gb325, _, none⟩) NB0_325.out _).trans (((cell_far (p := ⟨gb325, _, none⟩) NB0_325.out _).trans (((cell_far (p := ⟨gb325, _, none⟩) NB0_325.out _).trans (((cell_far (p := ⟨gb325, _, none⟩) NB0_325.out _).trans (((cell_far (p := ⟨gb325, _, none⟩) NB0_325.out _).trans (((cell_far (p := ⟨gb325, _, none⟩) NB0_325.out _).trans (((cell_far (p := ⟨gb325, _, none⟩) NB0_325.out _).trans (((cell_far (p := ⟨gb325, _, none⟩) NB0_325.out _).trans (((cell_far (p := ⟨gb325, _, none⟩) NB0_325.out _).trans (hHeld.2.2.2.2.2.2.2.2))))))))))))))))))⟩ (fun hHeld => ?_)
   clear hK K
   refine done_ (done_of HT_.out (by kernel_rfl)) ?_
   try go_wp2_with (first | ((with_reducible refine gate_callee (f := 52) rfl ?_); refine goesL_ (some 31) rfl rfl Try.func52 (by kernel_rfl) rfl #[.pointer (some ⟨gb325, 0, none⟩)] rfl (by (try simp only [List.map_toArray, List.map_cons, List.map_nil]); first | done | rfl | (simp only [List.length_drop, List.length_take]; rfl)) ?_; (with_reducible refine (spec_l04Is.calls k gb325 t321 t322 t323 t324 a0_4 a0_5 a0_6 a0_7 (wrap64 (a0_8 + 1500)) true _ ?side1 A7.out).mono ?_); (case side1 => (with_reducible repeat (first | refine Zn ?_ _ | refine Zd ?_ | refine Za ?_ _)); refine blk_put (cs := #[.int .i64 t321, .int .i64 t322, .int .i64 t323, .int .i64 t324, .int .i64 a0_4, .int .i64 a0_5, .int .i64 a0_6, .int .i64 a0_7, .int .i64 0]) ?_ 8 _ rfl; (with_reducible repeat (first | refine Zn ?_ _ | refine Zd ?_ | refine Za ?_ _)); refine blk_put (cs := #[.int .i64 t321, .int .i64 t322, .int .i64 t323, .int .i64 t324, .int .i64 a0_4, .int .i64 a0_5, .int .i64 a0_6, .int .i64 0, .int .i64 0]) ?_ 7 _ rfl; (with_reducible repeat (first | refine Zn ?_ _ | refine Zd ?_ | refine Za ?_ _)); refine blk_put (cs := #[.int .i64 t321, .int .i64 t322, .int .i64 t323, .int .i64 t324, .int .i64 a0_4, .int .i64 a0_5, .int .i64 0, .int .i64 0, .int .i64 0]) ?_ 6 _ rfl; (with_reducible repeat (first | refine Zn ?_ _ | refine Zd ?_ | refine Za ?_ _)); refine blk_put (cs := #[.int .i64 t321, .int .i64 t322, .int .i64 t323, .int .i64 t324, .int .i64 a0_4, .int .i64 0, .int .i64 0, .int .i64 0, .int .i64 0]) ?_ 5 _ rfl; (with_reducible repeat (first | refine Zn ?_ _ | refine Zd ?_ | refine Za ?_ _)); refine blk_put (cs := #[.int .i64 t321, .int .i64 t322, .int .i64 t323, .int .i64 t324, .int .i64 0, .int .i64 0, .int .i64 0, .int .i64 0, .int .i64 0]) ?_ 4 _ rfl; (with_reducible repeat (first | refine Zn ?_ _ | refine Zd ?_ | refine Za ?_ _)); refine blk_put (cs := #[.int .i64 t321, .int .i64 t322, .int .i64 t323, .int .i64 0, .int .i64 0, .int .i64 0, .int .i64 0, .int .i64 0, .int .i64 0]) ?_ 3 _ rfl; (with_reducible repeat (first | refine Zn ?_ _ | refine Zd ?_ | refine Za ?_ _)); refine blk_put (cs := #[.int .i64 t321, .int .i64 t322, .int .i64 0, .int .i64 0, .int .i64 0, .int .i64 0, .int .i64 0, .int .i64 0, .int .i64 0]) ?_ 2 _ rfl; (with_reducible repeat (first | refine Zn ?_ _ | refine Zd ?_ | refine Za ?_ _)); refine blk_put (cs := #[.int .i64 t321, .int .i64 0, .int .i64 0, .int .i64 0, .int .i64 0, .int .i64 0, .int .i64 0, .int .i64 0, .int .i64 0]) ?_ 1 _ rfl; (with_reducible repeat (first | refine Zn ?_ _ | refine Zd ?_ | refine Za ?_ _)); refine blk_put (cs := #[.int .i64 0, .int .i64 0, .int .i64 0, .int .i64 0, .int .i64 0, .int .i64 0, .int .i64 0, .int .i64 0, .int .i64 0]) ?_ 0 _ rfl; (with_reducible repeat (first | refine Zn ?_ _ | refine Zd ?_ | refine Za ?_ _)); exact BK325.out); rintro e w23 ⟨rfl, hb⟩; refine ⟨_, rfl, ?_⟩; have n0_ := Zm (blk_below (g := gp0) (o := .cells #[.int .i64 a0_0, .int .i64 a0_1, .int .i64 a0_2, .int .i64 a0_3, .int .i64 a0_4, .int .i64 a0_5, .int .i64 a0_6, .int .i64 a0_7, .int .i64 a0_8] 27 (0, 0)) (by (with_reducible repeat (first | refine Zn ?_ _ | refine Zd ?_ | refine Za ?_ _)); refine blk_far ?_ NB0_325.out _; (with_reducible repeat (first | refine Zn ?_ _ | refine Zd ?_ | refine Za ?_ _)); refine blk_far ?_ NB0_325.out _; (with_reducible repeat (first | refine Zn ?_ _ | refine Zd ?_ | refine Za ?_ _)); refine blk_far ?_ NB0_325.out _; (with_reducible repeat (first | refine Zn ?_ _ | refine Zd ?_ | refine Za ?_ _)); refine blk_far ?_ NB0_325.out _; (with_reducible repeat (first | refine Zn ?_ _ | refine Zd ?_ | refine Za ?_ _)); refine blk_far ?_ NB0_325.out _; (with_reducible repeat (first | refine Zn ?_ _ | refine Zd ?_ | refine Za ?_ _)); refine blk_far ?_ NB0_325.out _; (with_reducible repeat (first | refine Zn ?_ _ | refine Zd ?_ | refine Za ?_ _)); refine blk_far ?_ NB0_325.out _; (with_reducible repeat (first | refine Zn ?_ _ | refine Zd ?_ | refine Za ?_ _)); refine blk_far ?_ NB0_325.out _; (with_reducible repeat (first | refine Zn ?_ _ | refine Zd ?_ | refine Za ?_ _)); refine blk_far ?_ NB0_325.out _; (with_reducible repeat (first | refine Zn ?_ _ | refine Zd ?_ | refine Za ?_ _)); exact BK0.out) hb); have n1_ := Zm (blk_below (g := gb319) (o := .cells #[.int .i64 0, .int .i64 0, .int .i64 0, .int .i64 0, .int .i64 0, .int .i64 0, .int .i64 0, .int .i64 0, .int .i64 0] 27 (0, 0)) (by (with_reducible repeat (first | refine Zn ?_ _ | refine Zd ?_ | refine Za ?_ _)); refine blk_far ?_ NB319_325.out _; (with_reducible repeat (first | refine Zn ?_ _ | refine Zd ?_ | refine Za ?_ _)); refine blk_far ?_ NB319_325.out _; (with_reducible repeat (first | refine Zn ?_ _ | refine Zd ?_ | refine Za ?_ _)); refine blk_far ?_ NB319_325.out _; (with_reducible repeat (first | refine Zn ?_ _ | refine Zd ?_ | refine Za ?_ _)); refine blk_far ?_ NB319_325.out _; (with_reducible repeat (first | refine Zn ?_ _ | refine Zd ?_ | refine Za ?_ _)); refine blk_far ?_ NB319_325.out _; (with_reducible repeat (first | refine Zn ?_ _ | refine Zd ?_ | refine Za ?_ _)); refine blk_far ?_ NB319_325.out _; (with_reducible repeat (first | refine Zn ?_ _ | refine Zd ?_ | refine Za ?_ _)); refine blk_far ?_ NB319_325.out _; (with_reducible repeat (first | refine Zn ?_ _ | refine Zd ?_ | refine Za ?_ _)); refine blk_far ?_ NB319_325.out _; (with_reducible repeat (first | refine Zn ?_ _ | refine Zd ?_ | refine Za ?_ _)); refine blk_far ?_ NB319_325.out _; (with_reducible repeat (first | refine Zn ?_ _ | refine Zd ?_ | refine Za ?_ _)); exact BK319.out) hb); have n2_ := Zm (blk_below (g := gb325) (o := .cells #[.int .i64 t321, .int .i64 t322, .int .i64 t323, .int .i64 t324, .int .i64 a0_4, .int .i64 a0_5, .int .i64 a0_6, .int .i64 a0_7, .int .i64 (wrap64 (a0_8 + 1500))] 27 (0, 0)) (by (with_reducible repeat (first | refine Zn ?_ _ | refine Zd ?_ | refine Za ?_ _)); refine blk_put (cs := #[.int .i64 t321, .int .i64 t322, .int .i64 t323, .int .i64 t324, .int .i64 a0_4, .int .i64 a0_5, .int .i64 a0_6, .int .i64 a0_7, .int .i64 0]) ?_ 8 _ rfl; (with_reducible repeat (first | refine Zn ?_ _ | refine Zd ?_ | refine Za ?_ _)); refine blk_put (cs := #[.int .i64 t321, .int .i64 t322, .int .i64 t323, .int .i64 t324, .int .i64 a0_4, .int .i64 a0_5, .int .i64 a0_6, .int .i64 0, .int .i64 0]) ?_ 7 _ rfl; (with_reducible repeat (first | refine Zn ?_ _ | refine Zd ?_ | refine Za ?_ _)); refine blk_put (cs := #[.int .i64 t321, .int .i64 t322, .int .i64 t323, .int .i64 t324, .int .i64 a0_4, .int .i64 a0_5, .int .i64 0, .int .i64 0, .int .i64 0]) ?_ 6 _ rfl; (with_reducible repeat (first | refine Zn ?_ _ | refine Zd ?_ | refine Za ?_ _)); refine blk_put (cs := #[.int .i64 t321, .int .i64 t322, .int .i64 t323, .int .i64 t324, .int .i64 a0_4, .int .i64 0, .int .i64 0, .int .i64 0, .int .i64 0]) ?_ 5 _ rfl; (with_reducible repeat (first | refine Zn ?_ _ | refine Zd ?_ | refine Za ?_ _)); refine blk_put (cs := #[.int .i64 t321, .int .i64 t322, .int .i64 t323, .int .i64 t324, .int .i64 0, .int .i64 0, .int .i64 0, .int .i64 0, .int .i64 0]) ?_ 4 _ rfl; (with_reducible repeat (first | refine Zn ?_ _ | refine Zd ?_ | refine Za ?_ _)); refine blk_put (cs := #[.int .i64 t321, .int .i64 t322, .int .i64 t323, .int .i64 0, .int .i64 0, .int .i64 0, .int .i64 0, .int .i64 0, .int .i64 0]) ?_ 3 _ rfl; (with_reducible repeat (first | refine Zn ?_ _ | refine Zd ?_ | refine Za ?_ _)); refine blk_put (cs := #[.int .i64 t321, .int .i64 t322, .int .i64 0, .int .i64 0, .int .i64 0, .int .i64 0, .int .i64 0, .int .i64 0, .int .i64 0]) ?_ 2 _ rfl; (with_reducible repeat (first | refine Zn ?_ _ | refine Zd ?_ | refine Za ?_ _)); refine blk_put (cs := #[.int .i64 t321, .int .i64 0, .int .i64 0, .int .i64 0, .int .i64 0, .int .i64 0, .int .i64 0, .int .i64 0, .int .i64 0]) ?_ 1 _ rfl; (with_reducible repeat (first | refine Zn ?_ _ | refine Zd ?_ | refine Za ?_ _)); refine blk_put (cs := #[.int .i64 0, .int .i64 0, .int .i64 0, .int .i64 0, .int .i64 0, .int .i64 0, .int .i64 0, .int .i64 0, .int .i64 0]) ?_ 0 _ rfl; (with_reducible repeat (first | refine Zn ?_ _ | refine Zd ?_ | refine Za ?_ _)); exact BK325.out) hb); have n3_ := Zm (below_step (by repeat (first | (with_reducible first | exact HB.out | apply Zl | apply Zp | apply Ze | refine Zs ?_ GE0.out | refine Zs ?_ GE319.out | refine Zs ?_ GE325.out) | exact HB.out)) hb); clear BK0; clear BK319; clear BK325; clear HB; have BK0 := n0_; have BK319 := n1_; have BK325 := n2_; have HB := n3_; clear n0_ n1_ n2_ n3_; (try clear hb); (try clear hb2); (try clear hk); (try clear hi); have hnb24 := NB325_0.out; have hnc24 := NB0_325.out; have hnb25 := NB325_319.out; have hnc25 := NB319_325.out; have hcz26_0 : w23.cell? ⟨gb325, 0, none⟩ = some (.int .i64 t321) := (Zc BK325.out 0).trans rfl; have hcz26_1 : w23.cell? ⟨gb325, 1, none⟩ = some (.int .i64 t322) := (Zc BK325.out 1).trans rfl; have hcz26_2 : w23.cell? ⟨gb325, 2, none⟩ = some (.int .i64 t323) := (Zc BK325.out 2).trans rfl; have hcz26_3 : w23.cell? ⟨gb325, 3, none⟩ = some (.int .i64 t324) := (Zc BK325.out 3).trans rfl; have hcz26_4 : w23.cell? ⟨gb325, 4, none⟩ = some (.int .i64 a0_4) := (Zc BK325.out 4).trans rfl; have hcz26_5 : w23.cell? ⟨gb325, 5, none⟩ = some (.int .i64 a0_5) := (Zc BK325.out 5).trans rfl; have hcz26_6 : w23.cell? ⟨gb325, 6, none⟩ = some (.int .i64 a0_6) := (Zc BK325.out 6).trans rfl; have hcz26_7 : w23.cell? ⟨gb325, 7, none⟩ = some (.int .i64 a0_7) := (Zc BK325.out 7).trans rfl; have hcz26_8 : w23.cell? ⟨gb325, 8, none⟩ = some (.int .i64 (wrap64 (a0_8 + 1500))) := (Zc BK325.out 8).trans rfl; have hfz26_0 := Zf BK325.out 0; have hfz26_1 := Zf BK325.out 1; have hfz26_2 := Zf BK325.out 2; have hfz26_3 := Zf BK325.out 3; have hfz26_4 := Zf BK325.out 4; have hfz26_5 := Zf BK325.out 5; have hfz26_6 := Zf BK325.out 6; have hfz26_7 := Zf BK325.out 7; have hfz26_8 := Zf BK325.out 8; have hnb27 := NB319_0.out; have hnc27 := NB0_319.out; have hcz28_0 : w23.cell? ⟨gb319, 0, none⟩ = some (.int .i64 0) := (Zc BK319.out 0).trans rfl; have hcz28_1 : w23.cell? ⟨gb319, 1, none⟩ = some (.int .i64 0) := (Zc BK319.out 1).trans rfl; have hcz28_2 : w23.cell? ⟨gb319, 2, none⟩ = some (.int .i64 0) := (Zc BK319.out 2).trans rfl; have hcz28_3 : w23.cell? ⟨gb319, 3, none⟩ = some (.int .i64 0) := (Zc BK319.out 3).trans rfl; have hcz28_4 : w23.cell? ⟨gb319, 4, none⟩ = some (.int .i64 0) := (Zc BK319.out 4).trans rfl; have hcz28_5 : w23.cell? ⟨gb319, 5, none⟩ = some (.int .i64 0) := (Zc BK319.out 5).trans rfl; have hcz28_6 : w23.cell? ⟨gb319, 6, none⟩ = some (.int .i64 0) := (Zc BK319.out 6).trans rfl; have hcz28_7 : w23.cell? ⟨gb319, 7, none⟩ = some (.int .i64 0) := (Zc BK319.out 7).trans rfl; have hcz28_8 : w23.cell? ⟨gb319, 8, none⟩ = some (.int .i64 0) := (Zc BK319.out 8).trans rfl; have hfz28_0 := Zf BK319.out 0; have hfz28_1 := Zf BK319.out 1; have hfz28_2 := Zf BK319.out 2; have hfz28_3 := Zf BK319.out 3; have hfz28_4 := Zf BK319.out 4; have hfz28_5 := Zf BK319.out 5; have hfz28_6 := Zf BK319.out 6; have hfz28_7 := Zf BK319.out 7; have hfz28_8 := Zf BK319.out 8))
   refine bodyPost_ret (results_ct rfl _ _ gb319 27 #[.int .i64 t321, .int .i64 t322, .int .i64 t323, .int .i64 t324, .int .i64 a0_4, .int .i64 a0_5, .int .i64 a0_6, .int .i64 a0_7, .int .i64 (wrap64 (a0_8 + 1500))] (0, 0) _ rfl (by (with_reducible repeat (first | refine Zn ?_ _ | refine Zd ?_ | refine Za ?_ _)); refine blk_put (cs := #[.int .i64 t321, .int .i64 t322, .int .i64 t323, .int .i64 t324, .int .i64 a0_4, .int .i64 a0_5, .int .i64 a0_6, .int .i64 a0_7, .int .i64 0]) ?_ 8 _ rfl; (with_reducible repeat (first | refine Zn ?_ _ | refine Zd ?_ | refine Za ?_ _)); refine blk_put (cs := #[.int .i64 t321, .int .i64 t322, .int .i64 t323, .int .i64 t324, .int .i64 a0_4, .int .i64 a0_5, .int .i64 a0_6, .int .i64 0, .int .i64 0]) ?_ 7 _ rfl; (with_reducible repeat (first | refine Zn ?_ _ | refine Zd ?_ | refine Za ?_ _)); refine blk_put (cs := #[.int .i64 t321, .int .i64 t322, .int .i64 t323, .int .i64 t324, .int .i64 a0_4, .int .i64 a0_5, .int .i64 0, .int .i64 0, .int .i64 0]) ?_ 6 _ rfl; (with_reducible repeat (first | refine Zn ?_ _ | refine Zd ?_ | refine Za ?_ _)); refine blk_put (cs := #[.int .i64 t321, .int .i64 t322, .int .i64 t323, .int .i64 t324, .int .i64 a0_4, .int .i64 0, .int .i64 0, .int .i64 0, .int .i64 0]) ?_ 5 _ rfl; (with_reducible repeat (first | refine Zn ?_ _ | refine Zd ?_ | refine Za ?_ _)); refine blk_put (cs := #[.int .i64 t321, .int .i64 t322, .int .i64 t323, .int .i64 t324, .int .i64 0, .int .i64 0, .int .i64 0, .int .i64 0, .int .i64 0]) ?_ 4 _ rfl; (with_reducible repeat (first | refine Zn ?_ _ | refine Zd ?_ | refine Za ?_ _)); refine blk_put (cs := #[.int .i64 t321, .int .i64 t322, .int .i64 t323, .int .i64 0, .int .i64 0, .int .i64 0, .int .i64 0, .int .i64 0, .int .i64 0]) ?_ 3 _ rfl; (with_reducible repeat (first | refine Zn ?_ _ | refine Zd ?_ | refine Za ?_ _)); refine blk_put (cs := #[.int .i64 t321, .int .i64 t322, .int .i64 0, .int .i64 0, .int .i64 0, .int .i64 0, .int .i64 0, .int .i64 0, .int .i64 0]) ?_ 2 _ rfl; (with_reducible repeat (first | refine Zn ?_ _ | refine Zd ?_ | refine Za ?_ _)); refine blk_put (cs := #[.int .i64 t321, .int .i64 0, .int .i64 0, .int .i64 0, .int .i64 0, .int .i64 0, .int .i64 0, .int .i64 0, .int .i64 0]) ?_ 1 _ rfl; (with_reducible repeat (first | refine Zn ?_ _ | refine Zd ?_ | refine Za ?_ _)); refine blk_put (cs := #[.int .i64 0, .int .i64 0, .int .i64 0, .int .i64 0, .int .i64 0, .int .i64 0, .int .i64 0, .int .i64 0, .int .i64 0]) ?_ 0 _ rfl; (with_reducible repeat (first | refine Zn ?_ _ | refine Zd ?_ | refine Za ?_ _)); exact BK319.out) Try.underlying27 rfl (by kernel_rfl)) rfl ?_
   exact ⟨by first | rfl | (simp [errW_none, errW_some] <;> rfl) | (simp [*, errW_none, errW_some] <;> rfl), by repeat (first | (with_reducible first | exact HB.out | apply Zl | apply Zp | apply Ze | refine Zs ?_ GE0.out | refine Zs ?_ GE319.out | refine Zs ?_ GE325.out) | exact HB.out)⟩
  ·replace c8 := Bool.eq_false_iff.mpr c8
   subst c8
   have H1 : (some (0, 0, 0, 0, 0, 0, 0, 0, 0, false)) = some (r1, r2, r3, r4, r5, r6, r7, r8, r9, r10) := by rw [if_neg (show ¬ (false = true) by decide)] at H; exact H
   clear H
   have H := H1
   clear H1
   simp only [Option.some.injEq, Prod.mk.injEq] at H
   obtain ⟨rfl, rfl, rfl, rfl, rfl, rfl, rfl, rfl, rfl, rfl⟩ := H
   go_enter Try.func78, Try.ntmps78
   try go_wp2_with (first | ((with_reducible refine gate_dst (N := 6) rfl ?_); refine box_event ?hg (N := 6) ?hd (cs := #[.int .i64 0, .int .i64 0, .int .i64 0, .int .i64 0, .int .i64 0, .int .i64 0, .int .i64 0, .int .i64 0, .int .i64 0]) (t := 27) ?hr ?_; (case hd => rfl); (case hg => rfl); (case hr => first | (go_simp; done) | (go_simp; rfl)); intro gb319 hg w29 hbox hb; have n0_ := Zm (blk_below (g := gp0) (o := .cells #[.int .i64 a0_0, .int .i64 a0_1, .int .i64 a0_2, .int .i64 a0_3, .int .i64 a0_4, .int .i64 a0_5, .int .i64 a0_6, .int .i64 a0_7, .int .i64 a0_8] 27 (0, 0)) (by (with_reducible repeat (first | refine Zn ?_ _ | refine Zd ?_ | refine Za ?_ _)); exact BK0.out) hb); have n1_ := Zm (below_step (by repeat (first | (with_reducible first | exact HB.out | apply Zl | apply Zp | apply Ze | refine Zs ?_ GE0.out) | exact HB.out)) hb); have n2_ := Zm (hbox); have n3_ := Zm ((by rw [hg]; exact (below_size (by repeat (first | (with_reducible first | exact HB.out | apply Zl | apply Zp | apply Ze | refine Zs ?_ GE0.out) | exact HB.out))) : w.heap.size ≤ gb319)); have n4_ := Zm ((by rw [hg]; exact (below_size (by repeat (first | (with_reducible first | exact HB.out | apply Zl | apply Zp | apply Ze | refine Zs ?_ GE0.out) | exact HB.out))) : w.heap.size ≤ gb319)); have n5_ := Zm ((by rw [hg]; exact Nat.ne_of_lt (blk_lt (g := gp0) (o := .cells #[.int .i64 a0_0, .int .i64 a0_1, .int .i64 a0_2, .int .i64 a0_3, .int .i64 a0_4, .int .i64 a0_5, .int .i64 a0_6, .int .i64 a0_7, .int .i64 a0_8] 27 (0, 0)) (by (with_reducible repeat (first | refine Zn ?_ _ | refine Zd ?_ | refine Za ?_ _)); exact BK0.out)) : gp0 ≠ gb319)); have n6_ := Zm ((by rw [hg]; exact Nat.ne_of_gt (blk_lt (g := gp0) (o := .cells #[.int .i64 a0_0, .int .i64 a0_1, .int .i64 a0_2, .int .i64 a0_3, .int .i64 a0_4, .int .i64 a0_5, .int .i64 a0_6, .int .i64 a0_7, .int .i64 a0_8] 27 (0, 0)) (by (with_reducible repeat (first | refine Zn ?_ _ | refine Zd ?_ | refine Za ?_ _)); exact BK0.out)) : gb319 ≠ gp0)); clear BK0; clear HB; have BK0 := n0_; have HB := n1_; have BK319 := n2_; have GW319 := n3_; have GE319 := n4_; have NB0_319 := n5_; have NB319_0 := n6_; clear n0_ n1_ n2_ n3_ n4_ n5_ n6_; clear hb hbox hg) | ((with_reducible refine gate_callee (f := 87) rfl ?_); refine goesL_ (some 11) rfl rfl Try.func87 (by kernel_rfl) rfl #[.int .i64 a1, .int .i64 a2] rfl (by (try simp only [List.map_toArray, List.map_cons, List.map_nil]); first | done | rfl | (simp only [List.length_drop, List.length_take]; rfl)) ?_; (with_reducible refine (spec_l02Turn.calls a1 a2 true _ A4.out).mono ?_); rintro e w' ⟨rfl, ⟨nd, rfl⟩⟩; refine ⟨_, rfl, ?_⟩; (try (rw [drewN_self w29]; generalize hq_ : World.drewN w29 _ = w29; have n0_ : Aside0 (w29.heap[gp0]? = some (.cells #[.int .i64 a0_0, .int .i64 a0_1, .int .i64 a0_2, .int .i64 a0_3, .int .i64 a0_4, .int .i64 a0_5, .int .i64 a0_6, .int .i64 a0_7, .int .i64 a0_8] 27 (0, 0))) := ⟨by rw [← hq_]; exact (by (with_reducible repeat (first | refine Zn ?_ _ | refine Zd ?_ | refine Za ?_ _)); exact BK0.out)⟩; have n1_ : Aside0 (w29.heap[gb319]? = some (.cells #[.int .i64 0, .int .i64 0, .int .i64 0, .int .i64 0, .int .i64 0, .int .i64 0, .int .i64 0, .int .i64 0, .int .i64 0] 27 (0, 0))) := ⟨by rw [← hq_]; exact (by (with_reducible repeat (first | refine Zn ?_ _ | refine Zd ?_ | refine Za ?_ _)); exact BK319.out)⟩; have n2_ : Aside0 (Below w.heap.size w w29) := ⟨by rw [← hq_]; exact (by repeat (first | (with_reducible first | exact HB.out | apply Zl | apply Zp | apply Ze | refine Zs ?_ GE0.out | refine Zs ?_ GE319.out) | exact HB.out))⟩; clear BK0 BK319 HB hq_; have BK0 := n0_; have BK319 := n1_; have HB := n2_; clear n0_ n1_ n2_))))
   have n0_ := Zm (Zd BK0.out)
   have n1_ := Zm (Zd BK319.out)
   have n2_ := Zm (Ze HB.out)
   clear BK0
   clear BK319
   clear HB
   have BK0 := n0_
   have BK319 := n1_
   have HB := n2_
   clear n0_ n1_ n2_
   refine start_ (n := 19) (S := fun w' => w'.cell? ⟨gp0, 0, none⟩ = some (.int .i64 a0_0) ∧ w'.cell? ⟨gp0, 1, none⟩ = some (.int .i64 a0_1) ∧ w'.cell? ⟨gp0, 2, none⟩ = some (.int .i64 a0_2) ∧ w'.cell? ⟨gp0, 3, none⟩ = some (.int .i64 a0_3) ∧ w'.cell? ⟨gp0, 4, none⟩ = some (.int .i64 a0_4) ∧ w'.cell? ⟨gp0, 5, none⟩ = some (.int .i64 a0_5) ∧ w'.cell? ⟨gp0, 6, none⟩ = some (.int .i64 a0_6) ∧ w'.cell? ⟨gp0, 7, none⟩ = some (.int .i64 a0_7) ∧ w'.cell? ⟨gp0, 8, none⟩ = some (.int .i64 a0_8)) (ds := []) #[false, false, false, false, false, false, false, false, false, false, false, false, false, false, false, false, false, false, false] (by kernel_rfl) rfl rfl ⟨(Zc BK0.out 0).trans rfl, (Zc BK0.out 1).trans rfl, (Zc BK0.out 2).trans rfl, (Zc BK0.out 3).trans rfl, (Zc BK0.out 4).trans rfl, (Zc BK0.out 5).trans rfl, (Zc BK0.out 6).trans rfl, (Zc BK0.out 7).trans rfl, (Zc BK0.out 8).trans rfl⟩ (fun hHeld => ?_); refine with_tabW spec_l04Push.tab3 spec_l04Push.bits3 (fun HT_ HW_ => ?_)
   generalize w29.drew = w30 at BK0 BK319 HB hHeld ⊢
   refine pure_ (i := 0) (N := some 14) (v := ?_) (a' := ?_) #[true, false, false, false, false, false, false, false, false, false, false, false, false, false, false, false, false, false, false] rfl rfl (any_of HT_.out (by kernel_rfl)) (fun _ _ _ h => h) (Or.inl ⟨by rfl, ?_⟩) ?_ ?_
   rotate_left
   ·intro w'
    go_simp
    with_reducible rfl
   rotate_left
   ·simp only [Act.put, List.setIfInBounds_toArray, List.set_cons_zero, List.set_cons_succ, i64_w, i32_w]
    rfl
   refine pure_ (i := 1) (N := some 15) (v := ?_) (a' := ?_) #[true, true, false, false, false, false, false, false, false, false, false, false, false, false, false, false, false, false, false] rfl rfl (any_of HT_.out (by kernel_rfl)) (fun _ _ _ h => h) (Or.inl ⟨by rfl, ?_⟩) ?_ ?_
   rotate_left
   ·intro w'
    go_simp
    with_reducible rfl
   rotate_left
   ·simp only [Act.put, List.setIfInBounds_toArray, List.set_cons_zero, List.set_cons_succ, i64_w, i32_w]
    rfl
   refine pure_ (i := 2) (N := some 16) (v := ?_) (a' := ?_) #[true, true, true, false, false, false, false, false, false, false, false, false, false, false, false, false, false, false, false] rfl rfl (any_of HT_.out (by kernel_rfl)) (fun _ _ _ h => h) (Or.inl ⟨by rfl, ?_⟩) ?_ ?_
   rotate_left
   ·intro w'
    go_simp
    with_reducible rfl
   rotate_left
   ·simp only [Act.put, List.setIfInBounds_toArray, List.set_cons_zero, List.set_cons_succ, i64_w, i32_w]
    rfl
   refine pure_ (i := 4) (N := some 18) (v := ?_) (a' := ?_) #[true, true, true, false, true, false, false, false, false, false, false, false, false, false, false, false, false, false, false] rfl rfl (any_of HT_.out (by kernel_rfl)) (fun _ _ _ h => h) (Or.inl ⟨by rfl, ?_⟩) ?_ ?_
   rotate_left
   ·intro w'
    go_simp
    with_reducible rfl
   rotate_left
   ·simp only [Act.put, List.setIfInBounds_toArray, List.set_cons_zero, List.set_cons_succ, i64_w, i32_w]
    rfl
   refine pure_ (i := 5) (N := some 19) (v := ?_) (a' := ?_) #[true, true, true, false, true, true, false, false, false, false, false, false, false, false, false, false, false, false, false] rfl rfl (any_of HT_.out (by kernel_rfl)) (fun _ _ _ h => h) (Or.inl ⟨by rfl, ?_⟩) ?_ ?_
   rotate_left
   ·intro w'
    go_simp
    with_reducible rfl
   rotate_left
   ·simp only [Act.put, List.setIfInBounds_toArray, List.set_cons_zero, List.set_cons_succ, i64_w, i32_w]
    rfl
   refine pure_ (i := 7) (N := some 21) (v := ?_) (a' := ?_) #[true, true, true, false, true, true, false, true, false, false, false, false, false, false, false, false, false, false, false] rfl rfl (any_of HT_.out (by kernel_rfl)) (fun _ _ _ h => h) (Or.inl ⟨by rfl, ?_⟩) ?_ ?_
   rotate_left
   ·intro w'
    go_simp
    with_reducible rfl
   rotate_left
   ·simp only [Act.put, List.setIfInBounds_toArray, List.set_cons_zero, List.set_cons_succ, i64_w, i32_w]
    rfl
   refine pure_ (i := 8) (N := some 22) (v := ?_) (a' := ?_) #[true, true, true, false, true, true, false, true, true, false, false, false, false, false, false, false, false, false, false] rfl rfl (any_of HT_.out (by kernel_rfl)) (fun _ _ _ h => h) (Or.inl ⟨by rfl, ?_⟩) ?_ ?_
   rotate_left
   ·intro w'
    go_simp
    with_reducible rfl
   rotate_left
   ·simp only [Act.put, List.setIfInBounds_toArray, List.set_cons_zero, List.set_cons_succ, i64_w, i32_w]
    rfl
   refine pure_ (i := 9) (N := some 23) (v := ?_) (a' := ?_) #[true, true, true, false, true, true, false, true, true, true, false, false, false, false, false, false, false, false, false] rfl rfl (any_of HT_.out (by kernel_rfl)) (fun _ _ _ h => h) (Or.inl ⟨by rfl, ?_⟩) ?_ ?_
   rotate_left
   ·intro w'
    go_simp
    with_reducible rfl
   rotate_left
   ·simp only [Act.put, List.setIfInBounds_toArray, List.set_cons_zero, List.set_cons_succ, i64_w, i32_w]
    rfl
   refine pure_ (i := 11) (N := some 25) (v := ?_) (a' := ?_) #[true, true, true, false, true, true, false, true, true, true, false, true, false, false, false, false, false, false, false] rfl rfl (any_of HT_.out (by kernel_rfl)) (fun _ _ _ h => h) (Or.inl ⟨by rfl, ?_⟩) ?_ ?_
   rotate_left
   ·intro w'
    go_simp
    with_reducible rfl
   rotate_left
   ·simp only [Act.put, List.setIfInBounds_toArray, List.set_cons_zero, List.set_cons_succ, i64_w, i32_w]
    rfl
   refine pure_ (i := 12) (N := some 26) (v := ?_) (a' := ?_) #[true, true, true, false, true, true, false, true, true, true, false, true, true, false, false, false, false, false, false] rfl rfl (any_of HT_.out (by kernel_rfl)) (fun _ _ _ h => h) (Or.inl ⟨by rfl, ?_⟩) ?_ ?_
   rotate_left
   ·intro w'
    go_simp
    with_reducible rfl
   rotate_left
   ·simp only [Act.put, List.setIfInBounds_toArray, List.set_cons_zero, List.set_cons_succ, i64_w, i32_w]
    rfl
   refine pure_ (i := 13) (N := some 27) (v := ?_) (a' := ?_) #[true, true, true, false, true, true, false, true, true, true, false, true, true, true, false, false, false, false, false] rfl rfl (any_of HT_.out (by kernel_rfl)) (fun _ _ _ h => h) (Or.inl ⟨by rfl, ?_⟩) ?_ ?_
   rotate_left
   ·intro w'
    go_simp
    with_reducible rfl
   rotate_left
   ·simp only [Act.put, List.setIfInBounds_toArray, List.set_cons_zero, List.set_cons_succ, i64_w, i32_w]
    rfl
   refine take_ (i := 3) (N := some 17) (v := ?_) (a' := ?_) #[true, true, true, true, true, true, false, true, true, true, false, true, true, true, false, false, false, false, false] rfl rfl (take_ofW HT_.out HW_.out (by kernel_rfl)) (fun _ _ _ h => h) (Or.inl ⟨by rfl, ?_⟩) hHeld ?_ ?_
   rotate_left
   ·rintro w' ⟨s0, s1, s2, s3, s4, s5, s6, s7, s8⟩
    go_simp
    with_reducible rfl
   rotate_left
   ·simp only [Act.put, List.setIfInBounds_toArray, List.set_cons_zero, List.set_cons_succ, i64_w, i32_w]
    rfl
   refine take_ (i := 10) (N := some 24) (v := ?_) (a' := ?_) #[true, true, true, true, true, true, false, true, true, true, true, true, true, true, false, false, false, false, false] rfl rfl (take_ofW HT_.out HW_.out (by kernel_rfl)) (fun _ _ _ h => h) (Or.inl ⟨by rfl, ?_⟩) hHeld ?_ ?_
   rotate_left
   ·rintro w' ⟨s0, s1, s2, s3, s4, s5, s6, s7, s8⟩
    go_simp
    with_reducible rfl
   rotate_left
   ·simp only [Act.put, List.setIfInBounds_toArray, List.set_cons_zero, List.set_cons_succ, i64_w, i32_w]
    rfl
   refine take_ (i := 14) (N := some 28) (v := ?_) (a' := ?_) #[true, true, true, true, true, true, false, true, true, true, true, true, true, true, true, false, false, false, false] rfl rfl (take_ofW HT_.out HW_.out (by kernel_rfl)) (fun _ _ _ h => h) (Or.inl ⟨by rfl, ?_⟩) hHeld ?_ ?_
   rotate_left
   ·rintro w' ⟨s0, s1, s2, s3, s4, s5, s6, s7, s8⟩
    go_simp
    with_reducible rfl
   rotate_left
   ·simp only [Act.put, List.setIfInBounds_toArray, List.set_cons_zero, List.set_cons_succ, i64_w, i32_w]
    rfl
   refine pure_ (i := 15) (N := some 29) (v := ?_) (a' := ?_) #[true, true, true, true, true, true, false, true, true, true, true, true, true, true, true, true, false, false, false] rfl rfl (any_of HT_.out (by kernel_rfl)) (fun _ _ _ h => h) (Or.inl ⟨by rfl, ?_⟩) ?_ ?_
   rotate_left
   ·intro w'
    go_simp
    with_reducible rfl
   rotate_left
   ·simp only [Act.put, List.setIfInBounds_toArray, List.set_cons_zero, List.set_cons_succ, i64_w, i32_w]
    rfl
   refine join_ (σ := Nat) 1 #[true, true, true, true, true, true, true, true, true, true, true, true, true, true, true, true, true, true, false] (fun s_ => [(20, .agg #[.int .i64 t321, .int .i64 t322, .int .i64 t323, .int .i64 t324]), (8, .pointer (some ⟨s_, 0, none⟩)), (30, .agg #[.int .i64 t321, .int .i64 t322, .int .i64 t323, .int .i64 t324, .int .i64 a0_4, .int .i64 a0_5, .int .i64 a0_6, .int .i64 a0_7, .int .i64 (wrap64 (a0_8 + 1500))])]) (fun s_ w' => (w'.cell? ⟨gp0, 0, none⟩ = some (.int .i64 a0_0) ∧ w'.cell? ⟨gp0, 1, none⟩ = some (.int .i64 a0_1) ∧ w'.cell? ⟨gp0, 2, none⟩ = some (.int .i64 a0_2) ∧ w'.cell? ⟨gp0, 3, none⟩ = some (.int .i64 a0_3) ∧ w'.cell? ⟨gp0, 4, none⟩ = some (.int .i64 a0_4) ∧ w'.cell? ⟨gp0, 5, none⟩ = some (.int .i64 a0_5) ∧ w'.cell? ⟨gp0, 6, none⟩ = some (.int .i64 a0_6) ∧ w'.cell? ⟨gp0, 7, none⟩ = some (.int .i64 a0_7) ∧ w'.cell? ⟨gp0, 8, none⟩ = some (.int .i64 a0_8)) ∧ (w'.heap[gp0]? = some (.cells #[.int .i64 a0_0, .int .i64 a0_1, .int .i64 a0_2, .int .i64 a0_3, .int .i64 a0_4, .int .i64 a0_5, .int .i64 a0_6, .int .i64 a0_7, .int .i64 a0_8] 27 (0, 0))) ∧ (w'.heap[gb319]? = some (.cells #[.int .i64 0, .int .i64 0, .int .i64 0, .int .i64 0, .int .i64 0, .int .i64 0, .int .i64 0, .int .i64 0, .int .i64 0] 27 (0, 0))) ∧ (w'.heap[s_]? = some (.cells #[.int .i64 0, .int .i64 0, .int .i64 0, .int .i64 0, .int .i64 0, .int .i64 0, .int .i64 0, .int .i64 0, .int .i64 0] 27 (0, 0))) ∧ (w.heap.size ≤ s_) ∧ (w.heap.size ≤ s_) ∧ (gp0 ≠ s_) ∧ (s_ ≠ gp0) ∧ (gb319 ≠ s_) ∧ (s_ ≠ gb319) ∧ (Below w.heap.size w w')) ?_ ?_
   rotate_left
   ·intro hCont
    refine two_ (i := 6) (j := 17) (Ni := some 20) (Nj := some 8) #[true, true, true, true, true, true, true, true, true, true, true, true, true, true, true, true, false, false, false] #[true, true, true, true, true, true, false, true, true, true, true, true, true, true, true, true, false, true, false] rfl rfl rfl rfl (two_of HT_.out (by kernel_rfl)) (by decide) (by decide) (fun K hK => ?_) (fun K hK => ?_)
    ·skip
     refine goes_ Try.func86 (by kernel_rfl) rfl #[.agg #[.int .i64 a0_0, .int .i64 a0_1, .int .i64 a0_2, .int .i64 a0_3], .int .i64 a1, .int .i64 a2] (by rfl) rfl rfl (by (try simp only [List.map_toArray, List.map_cons, List.map_nil]); first | done | rfl | (simp only [List.length_drop, List.length_take]; rfl)) ?_
     with_reducible refine (spec_l02Next.calls a0_0 a0_1 a0_2 a0_3 a1 a2 t321 t322 t323 t324 _ A6.out).mono ?_
     rintro e w31 ⟨rfl, hb⟩
     refine ⟨_, rfl, ?_⟩
     have n0_ := Zm (blk_below (g := gp0) (o := .cells #[.int .i64 a0_0, .int .i64 a0_1, .int .i64 a0_2, .int .i64 a0_3, .int .i64 a0_4, .int .i64 a0_5, .int .i64 a0_6, .int .i64 a0_7, .int .i64 a0_8] 27 (0, 0)) (by (with_reducible repeat (first | refine Zn ?_ _ | refine Zd ?_ | refine Za ?_ _)); exact BK0.out) hb)
     have n1_ := Zm (blk_below (g := gb319) (o := .cells #[.int .i64 0, .int .i64 0, .int .i64 0, .int .i64 0, .int .i64 0, .int .i64 0, .int .i64 0, .int .i64 0, .int .i64 0] 27 (0, 0)) (by (with_reducible repeat (first | refine Zn ?_ _ | refine Zd ?_ | refine Za ?_ _)); exact BK319.out) hb)
     have n2_ := Zm (below_step (by repeat (first | (with_reducible first | exact HB.out | apply Zl | apply Zp | apply Ze | refine Zs ?_ GE0.out | refine Zs ?_ GE319.out) | exact HB.out)) hb)
     clear BK0
     clear BK319
     clear HB
     have BK0 := n0_
     have BK319 := n1_
     have HB := n2_
     clear n0_ n1_ n2_
     (try clear hb)
     (try clear hb2)
     (try clear hk)
     (try clear hi)
     refine hK.out _ _ ⟨(Zc BK0.out 0).trans rfl, (Zc BK0.out 1).trans rfl, (Zc BK0.out 2).trans rfl, (Zc BK0.out 3).trans rfl, (Zc BK0.out 4).trans rfl, (Zc BK0.out 5).trans rfl, (Zc BK0.out 6).trans rfl, (Zc BK0.out 7).trans rfl, (Zc BK0.out 8).trans rfl⟩ (fun hHeld => ?_)
     clear hK K
     refine norm_ (a' := ?_) ?_ ?_
     rotate_left
     ·show Act.put _ (some 20) _ = _
      simp only [Act.put, List.setIfInBounds_toArray, List.set_cons_zero, List.set_cons_succ, i64_w, i32_w]
      rfl
     refine pure_ (i := 16) (N := some 30) (v := ?_) (a' := ?_) #[true, true, true, true, true, true, true, true, true, true, true, true, true, true, true, true, true, false, false] rfl rfl (any_of HT_.out (by kernel_rfl)) (fun _ _ _ h => h) (Or.inl ⟨by rfl, ?_⟩) ?_ ?_
     rotate_left
     ·intro w'
      go_simp
      with_reducible rfl
     rotate_left
     ·simp only [Act.put, List.setIfInBounds_toArray, List.set_cons_zero, List.set_cons_succ, i64_w, i32_w]
      rfl
     refine one_ (i := 17) (N := some 8) #[true, true, true, true, true, true, true, true, true, true, true, true, true, true, true, true, true, true, false] rfl rfl (one_of HT_.out (by kernel_rfl)) (by decide) (fun K hK => ?_)
     refine box_step ?hg (N := 8) ?hd (cs := #[.int .i64 0, .int .i64 0, .int .i64 0, .int .i64 0, .int .i64 0, .int .i64 0, .int .i64 0, .int .i64 0, .int .i64 0]) (t := 27) ?hr ?_; (case hd => rfl); (case hg => rfl); (case hr => first | (go_simp; done) | (go_simp; rfl))
     intro gb325 hg w32 hbox hb
     have n0_ := Zm (blk_below (g := gp0) (o := .cells #[.int .i64 a0_0, .int .i64 a0_1, .int .i64 a0_2, .int .i64 a0_3, .int .i64 a0_4, .int .i64 a0_5, .int .i64 a0_6, .int .i64 a0_7, .int .i64 a0_8] 27 (0, 0)) (by (with_reducible repeat (first | refine Zn ?_ _ | refine Zd ?_ | refine Za ?_ _)); exact BK0.out) hb)
     have n1_ := Zm (blk_below (g := gb319) (o := .cells #[.int .i64 0, .int .i64 0, .int .i64 0, .int .i64 0, .int .i64 0, .int .i64 0, .int .i64 0, .int .i64 0, .int .i64 0] 27 (0, 0)) (by (with_reducible repeat (first | refine Zn ?_ _ | refine Zd ?_ | refine Za ?_ _)); exact BK319.out) hb)
     have n2_ := Zm (below_step (by repeat (first | (with_reducible first | exact HB.out | apply Zl | apply Zp | apply Ze | refine Zs ?_ GE0.out | refine Zs ?_ GE319.out) | exact HB.out)) hb)
     have n3_ := Zm (hbox)
     have n4_ := Zm ((by rw [hg]; exact (below_size (by repeat (first | (with_reducible first | exact HB.out | apply Zl | apply Zp | apply Ze | refine Zs ?_ GE0.out | refine Zs ?_ GE319.out) | exact HB.out))) : w.heap.size ≤ gb325))
     have n5_ := Zm ((by rw [hg]; exact (below_size (by repeat (first | (with_reducible first | exact HB.out | apply Zl | apply Zp | apply Ze | refine Zs ?_ GE0.out | refine Zs ?_ GE319.out) | exact HB.out))) : w.heap.size ≤ gb325))
     have n6_ := Zm ((by rw [hg]; exact Nat.ne_of_lt (blk_lt (g := gp0) (o := .cells #[.int .i64 a0_0, .int .i64 a0_1, .int .i64 a0_2, .int .i64 a0_3, .int .i64 a0_4, .int .i64 a0_5, .int .i64 a0_6, .int .i64 a0_7, .int .i64 a0_8] 27 (0, 0)) (by (with_reducible repeat (first | refine Zn ?_ _ | refine Zd ?_ | refine Za ?_ _)); exact BK0.out)) : gp0 ≠ gb325))
     have n7_ := Zm ((by rw [hg]; exact Nat.ne_of_gt (blk_lt (g := gp0) (o := .cells #[.int .i64 a0_0, .int .i64 a0_1, .int .i64 a0_2, .int .i64 a0_3, .int .i64 a0_4, .int .i64 a0_5, .int .i64 a0_6, .int .i64 a0_7, .int .i64 a0_8] 27 (0, 0)) (by (with_reducible repeat (first | refine Zn ?_ _ | refine Zd ?_ | refine Za ?_ _)); exact BK0.out)) : gb325 ≠ gp0))
     have n8_ := Zm ((by rw [hg]; exact Nat.ne_of_lt (blk_lt (g := gb319) (o := .cells #[.int .i64 0, .int .i64 0, .int .i64 0, .int .i64 0, .int .i64 0, .int .i64 0, .int .i64 0, .int .i64 0, .int .i64 0] 27 (0, 0)) (by (with_reducible repeat (first | refine Zn ?_ _ | refine Zd ?_ | refine Za ?_ _)); exact BK319.out)) : gb319 ≠ gb325))
     have n9_ := Zm ((by rw [hg]; exact Nat.ne_of_gt (blk_lt (g := gb319) (o := .cells #[.int .i64 0, .int .i64 0, .int .i64 0, .int .i64 0, .int .i64 0, .int .i64 0, .int .i64 0, .int .i64 0, .int .i64 0] 27 (0, 0)) (by (with_reducible repeat (first | refine Zn ?_ _ | refine Zd ?_ | refine Za ?_ _)); exact BK319.out)) : gb325 ≠ gb319))
     clear BK0
     clear BK319
     clear HB
     have BK0 := n0_
     have BK319 := n1_
     have HB := n2_
     have BK325 := n3_
     have GW325 := n4_
     have GE325 := n5_
     have NB0_325 := n6_
     have NB325_0 := n7_
     have NB319_325 := n8_
     have NB325_319 := n9_
     clear n0_ n1_ n2_ n3_ n4_ n5_ n6_ n7_ n8_ n9_
     clear hb hbox hg
     refine hK.out _ _ ⟨(Zc BK0.out 0).trans rfl, (Zc BK0.out 1).trans rfl, (Zc BK0.out 2).trans rfl, (Zc BK0.out 3).trans rfl, (Zc BK0.out 4).trans rfl, (Zc BK0.out 5).trans rfl, (Zc BK0.out 6).trans rfl, (Zc BK0.out 7).trans rfl, (Zc BK0.out 8).trans rfl⟩ (fun hHeld => ?_)
     clear hK K
     refine norm_ (a' := ?_) ?_ ?_
     rotate_left
     ·show Act.put _ (some 8) _ = _
      simp only [Act.put, List.setIfInBounds_toArray, List.set_cons_zero, List.set_cons_succ, i64_w, i32_w]
      rfl
     exact norm_ (by simp only [putAll, Act.put, List.setIfInBounds_toArray, List.set_cons_zero, List.set_cons_succ]) (hCont (gb325) _ ⟨hHeld, (by (with_reducible repeat (first | refine Zn ?_ _ | refine Zd ?_ | refine Za ?_ _)); exact BK0.out), (by (with_reducible repeat (first | refine Zn ?_ _ | refine Zd ?_ | refine Za ?_ _)); exact BK319.out), (by (with_reducible repeat (first | refine Zn ?_ _ | refine Zd ?_ | refine Za ?_ _)); exact BK325.out), GW325.out, GE325.out, NB0_325.out, NB325_0.out, NB319_325.out, NB325_319.out, (by repeat (first | (with_reducible first | exact HB.out | apply Zl | apply Zp | apply Ze | refine Zs ?_ GE0.out | refine Zs ?_ GE319.out | refine Zs ?_ GE325.out) | exact HB.out))⟩)
    ·skip
     refine box_step ?hg (N := 8) ?hd (cs := #[.int .i64 0, .int .i64 0, .int .i64 0, .int .i64 0, .int .i64 0, .int .i64 0, .int .i64 0, .int .i64 0, .int .i64 0]) (t := 27) ?hr ?_; (case hd => rfl); (case hg => rfl); (case hr => first | (go_simp; done) | (go_simp; rfl))
     intro gb325 hg w31 hbox hb
     have n0_ := Zm (blk_below (g := gp0) (o := .cells #[.int .i64 a0_0, .int .i64 a0_1, .int .i64 a0_2, .int .i64 a0_3, .int .i64 a0_4, .int .i64 a0_5, .int .i64 a0_6, .int .i64 a0_7, .int .i64 a0_8] 27 (0, 0)) (by (with_reducible repeat (first | refine Zn ?_ _ | refine Zd ?_ | refine Za ?_ _)); exact BK0.out) hb)
     have n1_ := Zm (blk_below (g := gb319) (o := .cells #[.int .i64 0, .int .i64 0, .int .i64 0, .int .i64 0, .int .i64 0, .int .i64 0, .int .i64 0, .int .i64 0, .int .i64 0] 27 (0, 0)) (by (with_reducible repeat (first | refine Zn ?_ _ | refine Zd ?_ | refine Za ?_ _)); exact BK319.out) hb)
     have n2_ := Zm (below_step (by repeat (first | (with_reducible first | exact HB.out | apply Zl | apply Zp | apply Ze | refine Zs ?_ GE0.out | refine Zs ?_ GE319.out) | exact HB.out)) hb)
     have n3_ := Zm (hbox)
     have n4_ := Zm ((by rw [hg]; exact (below_size (by repeat (first | (with_reducible first | exact HB.out | apply Zl | apply Zp | apply Ze | refine Zs ?_ GE0.out | refine Zs ?_ GE319.out) | exact HB.out))) : w.heap.size ≤ gb325))
     have n5_ := Zm ((by rw [hg]; exact (below_size (by repeat (first | (with_reducible first | exact HB.out | apply Zl | apply Zp | apply Ze | refine Zs ?_ GE0.out | refine Zs ?_ GE319.out) | exact HB.out))) : w.heap.size ≤ gb325))
     have n6_ := Zm ((by rw [hg]; exact Nat.ne_of_lt (blk_lt (g := gp0) (o := .cells #[.int .i64 a0_0, .int .i64 a0_1, .int .i64 a0_2, .int .i64 a0_3, .int .i64 a0_4, .int .i64 a0_5, .int .i64 a0_6, .int .i64 a0_7, .int .i64 a0_8] 27 (0, 0)) (by (with_reducible repeat (first | refine Zn ?_ _ | refine Zd ?_ | refine Za ?_ _)); exact BK0.out)) : gp0 ≠ gb325))
     have n7_ := Zm ((by rw [hg]; exact Nat.ne_of_gt (blk_lt (g := gp0) (o := .cells #[.int .i64 a0_0, .int .i64 a0_1, .int .i64 a0_2, .int .i64 a0_3, .int .i64 a0_4, .int .i64 a0_5, .int .i64 a0_6, .int .i64 a0_7, .int .i64 a0_8] 27 (0, 0)) (by (with_reducible repeat (first | refine Zn ?_ _ | refine Zd ?_ | refine Za ?_ _)); exact BK0.out)) : gb325 ≠ gp0))
     have n8_ := Zm ((by rw [hg]; exact Nat.ne_of_lt (blk_lt (g := gb319) (o := .cells #[.int .i64 0, .int .i64 0, .int .i64 0, .int .i64 0, .int .i64 0, .int .i64 0, .int .i64 0, .int .i64 0, .int .i64 0] 27 (0, 0)) (by (with_reducible repeat (first | refine Zn ?_ _ | refine Zd ?_ | refine Za ?_ _)); exact BK319.out)) : gb319 ≠ gb325))
     have n9_ := Zm ((by rw [hg]; exact Nat.ne_of_gt (blk_lt (g := gb319) (o := .cells #[.int .i64 0, .int .i64 0, .int .i64 0, .int .i64 0, .int .i64 0, .int .i64 0, .int .i64 0, .int .i64 0, .int .i64 0] 27 (0, 0)) (by (with_reducible repeat (first | refine Zn ?_ _ | refine Zd ?_ | refine Za ?_ _)); exact BK319.out)) : gb325 ≠ gb319))
     clear BK0
     clear BK319
     clear HB
     have BK0 := n0_
     have BK319 := n1_
     have HB := n2_
     have BK325 := n3_
     have GW325 := n4_
     have GE325 := n5_
     have NB0_325 := n6_
     have NB325_0 := n7_
     have NB319_325 := n8_
     have NB325_319 := n9_
     clear n0_ n1_ n2_ n3_ n4_ n5_ n6_ n7_ n8_ n9_
     clear hb hbox hg
     refine hK.out _ _ ⟨(Zc BK0.out 0).trans rfl, (Zc BK0.out 1).trans rfl, (Zc BK0.out 2).trans rfl, (Zc BK0.out 3).trans rfl, (Zc BK0.out 4).trans rfl, (Zc BK0.out 5).trans rfl, (Zc BK0.out 6).trans rfl, (Zc BK0.out 7).trans rfl, (Zc BK0.out 8).trans rfl⟩ (fun hHeld => ?_)
     clear hK K
     refine norm_ (a' := ?_) ?_ ?_
     rotate_left
     ·show Act.put _ (some 8) _ = _
      simp only [Act.put, List.setIfInBounds_toArray, List.set_cons_zero, List.set_cons_succ, i64_w, i32_w]
      rfl
     refine one_ (i := 6) (N := some 20) #[true, true, true, true, true, true, true, true, true, true, true, true, true, true, true, true, false, true, false] rfl rfl (one_of HT_.out (by kernel_rfl)) (by decide) (fun K hK => ?_)
     refine goes_ Try.func86 (by kernel_rfl) rfl #[.agg #[.int .i64 a0_0, .int .i64 a0_1, .int .i64 a0_2, .int .i64 a0_3], .int .i64 a1, .int .i64 a2] (by rfl) rfl rfl (by (try simp only [List.map_toArray, List.map_cons, List.map_nil]); first | done | rfl | (simp only [List.length_drop, List.length_take]; rfl)) ?_
     with_reducible refine (spec_l02Next.calls a0_0 a0_1 a0_2 a0_3 a1 a2 t321 t322 t323 t324 _ A6.out).mono ?_
     rintro e w32 ⟨rfl, hb⟩
     refine ⟨_, rfl, ?_⟩
     have n0_ := Zm (blk_below (g := gp0) (o := .cells #[.int .i64 a0_0, .int .i64 a0_1, .int .i64 a0_2, .int .i64 a0_3, .int .i64 a0_4, .int .i64 a0_5, .int .i64 a0_6, .int .i64 a0_7, .int .i64 a0_8] 27 (0, 0)) (by (with_reducible repeat (first | refine Zn ?_ _ | refine Zd ?_ | refine Za ?_ _)); exact BK0.out) hb)
     have n1_ := Zm (blk_below (g := gb319) (o := .cells #[.int .i64 0, .int .i64 0, .int .i64 0, .int .i64 0, .int .i64 0, .int .i64 0, .int .i64 0, .int .i64 0, .int .i64 0] 27 (0, 0)) (by (with_reducible repeat (first | refine Zn ?_ _ | refine Zd ?_ | refine Za ?_ _)); exact BK319.out) hb)
     have n2_ := Zm (blk_below (g := gb325) (o := .cells #[.int .i64 0, .int .i64 0, .int .i64 0, .int .i64 0, .int .i64 0, .int .i64 0, .int .i64 0, .int .i64 0, .int .i64 0] 27 (0, 0)) (by (with_reducible repeat (first | refine Zn ?_ _ | refine Zd ?_ | refine Za ?_ _)); exact BK325.out) hb)
     have n3_ := Zm (below_step (by repeat (first | (with_reducible first | exact HB.out | apply Zl | apply Zp | apply Ze | refine Zs ?_ GE0.out | refine Zs ?_ GE319.out | refine Zs ?_ GE325.out) | exact HB.out)) hb)
     clear BK0
     clear BK319
     clear BK325
     clear HB
     have BK0 := n0_
     have BK319 := n1_
     have BK325 := n2_
     have HB := n3_
     clear n0_ n1_ n2_ n3_
     (try clear hb)
     (try clear hb2)
     (try clear hk)
     (try clear hi)
     refine hK.out _ _ ⟨(Zc BK0.out 0).trans rfl, (Zc BK0.out 1).trans rfl, (Zc BK0.out 2).trans rfl, (Zc BK0.out 3).trans rfl, (Zc BK0.out 4).trans rfl, (Zc BK0.out 5).trans rfl, (Zc BK0.out 6).trans rfl, (Zc BK0.out 7).trans rfl, (Zc BK0.out 8).trans rfl⟩ (fun hHeld => ?_)
     clear hK K
     refine norm_ (a' := ?_) ?_ ?_
     rotate_left
     ·show Act.put _ (some 20) _ = _
      simp only [Act.put, List.setIfInBounds_toArray, List.set_cons_zero, List.set_cons_succ, i64_w, i32_w]
      rfl
     refine pure_ (i := 16) (N := some 30) (v := ?_) (a' := ?_) #[true, true, true, true, true, true, true, true, true, true, true, true, true, true, true, true, true, true, false] rfl rfl (any_of HT_.out (by kernel_rfl)) (fun _ _ _ h => h) (Or.inl ⟨by rfl, ?_⟩) ?_ ?_
     rotate_left
     ·intro w'
      go_simp
      with_reducible rfl
     rotate_left
     ·simp only [Act.put, List.setIfInBounds_toArray, List.set_cons_zero, List.set_cons_succ, i64_w, i32_w]
      rfl
     exact norm_ (by simp only [putAll, Act.put, List.setIfInBounds_toArray, List.set_cons_zero, List.set_cons_succ]) (hCont (gb325) _ ⟨hHeld, (by (with_reducible repeat (first | refine Zn ?_ _ | refine Zd ?_ | refine Za ?_ _)); exact BK0.out), (by (with_reducible repeat (first | refine Zn ?_ _ | refine Zd ?_ | refine Za ?_ _)); exact BK319.out), (by (with_reducible repeat (first | refine Zn ?_ _ | refine Zd ?_ | refine Za ?_ _)); exact BK325.out), GW325.out, GE325.out, NB0_325.out, NB325_0.out, NB319_325.out, NB325_319.out, (by repeat (first | (with_reducible first | exact HB.out | apply Zl | apply Zp | apply Ze | refine Zs ?_ GE0.out | refine Zs ?_ GE319.out | refine Zs ?_ GE325.out) | exact HB.out))⟩)
   rintro gb325 w33 ⟨hS_, h0_, h1_, h2_, h3_, h4_, h5_, h6_, h7_, h8_, h9_⟩
   have n0_ : Aside0 (w33.heap[gp0]? = some (.cells #[.int .i64 a0_0, .int .i64 a0_1, .int .i64 a0_2, .int .i64 a0_3, .int .i64 a0_4, .int .i64 a0_5, .int .i64 a0_6, .int .i64 a0_7, .int .i64 a0_8] 27 (0, 0))) := ⟨h0_⟩
   have n1_ : Aside0 (w33.heap[gb319]? = some (.cells #[.int .i64 0, .int .i64 0, .int .i64 0, .int .i64 0, .int .i64 0, .int .i64 0, .int .i64 0, .int .i64 0, .int .i64 0] 27 (0, 0))) := ⟨h1_⟩
   have n2_ : Aside0 (w33.heap[gb325]? = some (.cells #[.int .i64 0, .int .i64 0, .int .i64 0, .int .i64 0, .int .i64 0, .int .i64 0, .int .i64 0, .int .i64 0, .int .i64 0] 27 (0, 0))) := ⟨h2_⟩
   have n3_ : Aside0 (w.heap.size ≤ gb325) := ⟨h3_⟩
   have n4_ : Aside0 (w.heap.size ≤ gb325) := ⟨h4_⟩
   have n5_ : Aside0 (gp0 ≠ gb325) := ⟨h5_⟩
   have n6_ : Aside0 (gb325 ≠ gp0) := ⟨h6_⟩
   have n7_ : Aside0 (gb319 ≠ gb325) := ⟨h7_⟩
   have n8_ : Aside0 (gb325 ≠ gb319) := ⟨h8_⟩
   have n9_ : Aside0 (Below w.heap.size w w33) := ⟨h9_⟩
   clear BK0
   clear BK319
   clear HB
   clear h0_ h1_ h2_ h3_ h4_ h5_ h6_ h7_ h8_ h9_
   have BK0 := n0_
   have BK319 := n1_
   have BK325 := n2_
   have GW325 := n3_
   have GE325 := n4_
   have NB0_325 := n5_
   have NB325_0 := n6_
   have NB319_325 := n7_
   have NB325_319 := n8_
   have HB := n9_
   clear n0_ n1_ n2_ n3_ n4_ n5_ n6_ n7_ n8_ n9_
   have hHeld : w33.cell? ⟨gp0, 0, none⟩ = some (.int .i64 a0_0) ∧ w33.cell? ⟨gp0, 1, none⟩ = some (.int .i64 a0_1) ∧ w33.cell? ⟨gp0, 2, none⟩ = some (.int .i64 a0_2) ∧ w33.cell? ⟨gp0, 3, none⟩ = some (.int .i64 a0_3) ∧ w33.cell? ⟨gp0, 4, none⟩ = some (.int .i64 a0_4) ∧ w33.cell? ⟨gp0, 5, none⟩ = some (.int .i64 a0_5) ∧ w33.cell? ⟨gp0, 6, none⟩ = some (.int .i64 a0_6) ∧ w33.cell? ⟨gp0, 7, none⟩ = some (.int .i64 a0_7) ∧ w33.cell? ⟨gp0, 8, none⟩ = some (.int .i64 a0_8) := hS_
   refine norm_ (a' := ?_) ?_ ?_
   rotate_left
   ·simp only [putAll, Act.put, List.setIfInBounds_toArray, List.set_cons_zero, List.set_cons_succ]
    rfl
   refine one_ (i := 18) (N := none) #[true, true, true, true, true, true, true, true, true, true, true, true, true, true, true, true, true, true, true] rfl rfl (one_of HT_.out (by kernel_rfl)) (by decide) (fun K hK => ?_)
   have hs34 : w33.cell? ⟨gb325, 0, none⟩ = some (.int .i64 0) := (Zc BK325.out 0).trans rfl
   have hfs34 := Zf BK325.out 0
   have hns34_0 := NB0_325.out
   have hns34_1 := NB319_325.out
   have hms34_0 := NB325_0.out
   have hms34_1 := NB325_319.out
   have hs35 : w33.cell? ⟨gb325, 1, none⟩ = some (.int .i64 0) := (Zc BK325.out 1).trans rfl
   have hfs35 := Zf BK325.out 1
   have hns35_0 := NB0_325.out
   have hns35_1 := NB319_325.out
   have hms35_0 := NB325_0.out
   have hms35_1 := NB325_319.out
   have hs36 : w33.cell? ⟨gb325, 2, none⟩ = some (.int .i64 0) := (Zc BK325.out 2).trans rfl
   have hfs36 := Zf BK325.out 2
   have hns36_0 := NB0_325.out
   have hns36_1 := NB319_325.out
   have hms36_0 := NB325_0.out
   have hms36_1 := NB325_319.out
   have hs37 : w33.cell? ⟨gb325, 3, none⟩ = some (.int .i64 0) := (Zc BK325.out 3).trans rfl
   have hfs37 := Zf BK325.out 3
   have hns37_0 := NB0_325.out
   have hns37_1 := NB319_325.out
   have hms37_0 := NB325_0.out
   have hms37_1 := NB325_319.out
   have hs38 : w33.cell? ⟨gb325, 4, none⟩ = some (.int .i64 0) := (Zc BK325.out 4).trans rfl
   have hfs38 := Zf BK325.out 4
   have hns38_0 := NB0_325.out
   have hns38_1 := NB319_325.out
   have hms38_0 := NB325_0.out
   have hms38_1 := NB325_319.out
   have hs39 : w33.cell? ⟨gb325, 5, none⟩ = some (.int .i64 0) := (Zc BK325.out 5).trans rfl
   have hfs39 := Zf BK325.out 5
   have hns39_0 := NB0_325.out
   have hns39_1 := NB319_325.out
   have hms39_0 := NB325_0.out
   have hms39_1 := NB325_319.out
   have hs40 : w33.cell? ⟨gb325, 6, none⟩ = some (.int .i64 0) := (Zc BK325.out 6).trans rfl
   have hfs40 := Zf BK325.out 6
   have hns40_0 := NB0_325.out
   have hns40_1 := NB319_325.out
   have hms40_0 := NB325_0.out
   have hms40_1 := NB325_319.out
   have hs41 : w33.cell? ⟨gb325, 7, none⟩ = some (.int .i64 0) := (Zc BK325.out 7).trans rfl
   have hfs41 := Zf BK325.out 7
   have hns41_0 := NB0_325.out
   have hns41_1 := NB319_325.out
   have hms41_0 := NB325_0.out
   have hms41_1 := NB325_319.out
   have hs42 : w33.cell? ⟨gb325, 8, none⟩ = some (.int .i64 0) := (Zc BK325.out 8).trans rfl
   have hfs42 := Zf BK325.out 8
   have hns42_0 := NB0_325.out
   have hns42_1 := NB319_325.out
   have hms42_0 := NB325_0.out
   have hms42_1 := NB325_319.out
   refine skip_ (w1 := ?_) (by rfl) rfl ?_ ?_
   rotate_left
   ·go_simp
    rfl
   refine hK.out _ _ ⟨((cell_far (p := ⟨gb325, _, none⟩) NB0_325.out _).trans (((cell_far (p := ⟨gb325, _, none⟩) NB0_325.out _).trans (((cell_far (p := ⟨gb325, _, none⟩) NB0_325.out _).trans (((cell_far (p := ⟨gb325, _, none⟩) NB0_325.out _).trans (((cell_far (p := ⟨gb325, _, none⟩) NB0_325.out _).trans (((cell_far (p := ⟨gb325, _, none⟩) NB0_325.out _).trans (((cell_far (p := ⟨gb325, _, none⟩) NB0_325.out _).trans (((cell_far (p := ⟨gb325, _, none⟩) NB0_325.out _).trans (((cell_far (p := ⟨gb325, _, none⟩) NB0_325.out _).trans (hHeld.1)))))))))))))))))), ((cell_far (p := ⟨gb325, _, none⟩) NB0_325.out _).trans (((cell_far (p := ⟨gb325, _, none⟩) NB0_325.out _).trans (((cell_far (p := ⟨gb325, _, none⟩) NB0_325.out _).trans (((cell_far (p := ⟨gb325, _, none⟩) NB0_325.out _).trans (((cell_far (p := ⟨gb325, _, none⟩) NB0_325.out _).trans (((cell_far (p := ⟨gb325, _, none⟩) NB0_325.out _).trans (((cell_far (p := ⟨gb325, _, none⟩) NB0_325.out _).trans (((cell_far (p := ⟨gb325, _, none⟩) NB0_325.out _).trans (((cell_far (p := ⟨gb325, _, none⟩) NB0_325.out _).trans (hHeld.2.1)))))))))))))))))), ((cell_far (p := ⟨gb325, _, none⟩) NB0_325.out _).trans (((cell_far (p := ⟨gb325, _, none⟩) NB0_325.out _).trans (((cell_far (p := ⟨gb325, _, none⟩) NB0_325.out _).trans (((cell_far (p := ⟨gb325, _, none⟩) NB0_325.out _).trans (((cell_far (p := ⟨gb325, _, none⟩) NB0_325.out _).trans (((cell_far (p := ⟨gb325, _, none⟩) NB0_325.out _).trans (((cell_far (p := ⟨gb325, _, none⟩) NB0_325.out _).trans (((cell_far (p := ⟨gb325, _, none⟩) NB0_325.out _).trans (((cell_far (p := ⟨gb325, _, none⟩) NB0_325.out _).trans (hHeld.2.2.1)))))))))))))))))), ((cell_far (p := ⟨gb325, _, none⟩) NB0_325.out _).trans (((cell_far (p := ⟨gb325, _, none⟩) NB0_325.out _).trans (((cell_far (p := ⟨gb325, _, none⟩) NB0_325.out _).trans (((cell_far (p := ⟨gb325, _, none⟩) NB0_325.out _).trans (((cell_far (p := ⟨gb325, _, none⟩) NB0_325.out _).trans (((cell_far (p := ⟨gb325, _, none⟩) NB0_325.out _).trans (((cell_far (p := ⟨gb325, _, none⟩) NB0_325.out _).trans (((cell_far (p := ⟨gb325, _, none⟩) NB0_325.out _).trans (((cell_far (p := ⟨gb325, _, none⟩) NB0_325.out _).trans (hHeld.2.2.2.1)))))))))))))))))), ((cell_far (p := ⟨gb325, _, none⟩) NB0_325.out _).trans (((cell_far (p := ⟨gb325, _, none⟩) NB0_325.out _).trans (((cell_far (p := ⟨gb325, _, none⟩) NB0_325.out _).trans (((cell_far (p := ⟨gb325, _, none⟩) NB0_325.out _).trans (((cell_far (p := ⟨gb325, _, none⟩) NB0_325.out _).trans (((cell_far (p := ⟨gb325, _, none⟩) NB0_325.out _).trans (((cell_far (p := ⟨gb325, _, none⟩) NB0_325.out _).trans (((cell_far (p := ⟨gb325, _, none⟩) NB0_325.out _).trans (((cell_far (p := ⟨gb325, _, none⟩) NB0_325.out _).trans (hHeld.2.2.2.2.1)))))))))))))))))), ((cell_far (p := ⟨gb325, _, none⟩) NB0_325.out _).trans (((cell_far (p := ⟨gb325, _, none⟩) NB0_325.out _).trans (((cell_far (p := ⟨gb325, _, none⟩) NB0_325.out _).trans (((cell_far (p := ⟨gb325, _, none⟩) NB0_325.out _).trans (((cell_far (p := ⟨gb325, _, none⟩) NB0_325.out _).trans (((cell_far (p := ⟨gb325, _, none⟩) NB0_325.out _).trans (((cell_far (p := ⟨gb325, _, none⟩) NB0_325.out _).trans (((cell_far (p := ⟨gb325, _, none⟩) NB0_325.out _).trans (((cell_far (p := ⟨gb325, _, none⟩) NB0_325.out _).trans (hHeld.2.2.2.2.2.1)))))))))))))))))), ((cell_far (p := ⟨gb325, _, none⟩) NB0_325.out _).trans (((cell_far (p := ⟨gb325, _, none⟩) NB0_325.out _).trans (((cell_far (p := ⟨gb325, _, none⟩) NB0_325.out _).trans (((cell_far (p := ⟨gb325, _, none⟩) NB0_325.out _).trans (((cell_far (p := ⟨gb325, _, none⟩) NB0_325.out _).trans (((cell_far (p := ⟨gb325, _, none⟩) NB0_325.out _).trans (((cell_far (p := ⟨gb325, _, none⟩) NB0_325.out _).trans (((cell_far (p := ⟨gb325, _, none⟩) NB0_325.out _).trans (((cell_far (p := ⟨gb325, _, none⟩) NB0_325.out _).trans (hHeld.2.2.2.2.2.2.1)))))))))))))))))), ((cell_far (p := ⟨gb325, _, none⟩) NB0_325.out _).trans (((cell_far (p := ⟨gb325, _, none⟩) NB0_325.out _).trans (((cell_far (p := ⟨gb325, _, none⟩) NB0_325.out _).trans (((cell_far (p := ⟨gb325, _, none⟩) NB0_325.out _).trans (((cell_far (p := ⟨gb325, _, none⟩) NB0_325.out _).trans (((cell_far (p := ⟨gb325, _, none⟩) NB0_325.out _).trans (((cell_far (p := ⟨gb325, _, none⟩) NB0_325.out _).trans (((cell_far (p := ⟨gb325, _, none⟩) NB0_325.out _).trans (((cell_far (p := ⟨gb325, _, none⟩) NB0_325.out _).trans (hHeld.2.2.2.2.2.2.2.1)))))))))))))))))), ((cell_far (p := ⟨gb325, _, none⟩) NB0_325.out _).trans (((cell_far (p := ⟨gb325, _, none⟩) NB0_325.out _).trans (((cell_far (p := ⟨gb325, _, none⟩) NB0_325.out _).trans (((cell_far (p := ⟨gb325, _, none⟩) NB0_325.out _).trans (((cell_far (p := ⟨gb325, _, none⟩) NB0_325.out _).trans (((cell_far (p := ⟨gb325, _, none⟩) NB0_325.out _).trans (((cell_far (p := ⟨gb325, _, none⟩) NB0_325.out _).trans (((cell_far (p := ⟨gb325, _, none⟩) NB0_325.out _).trans (((cell_far (p := ⟨gb325, _, none⟩) NB0_325.out _).trans (hHeld.2.2.2.2.2.2.2.2))))))))))))))))))⟩ (fun hHeld => ?_)
   clear hK K
   refine done_ (done_of HT_.out (by kernel_rfl)) ?_
   try go_wp2_with (first | ((with_reducible refine gate_callee (f := 52) rfl ?_); refine goesL_ (some 31) rfl rfl Try.func52 (by kernel_rfl) rfl #[.pointer (some ⟨gb325, 0, none⟩)] rfl (by (try simp only [List.map_toArray, List.map_cons, List.map_nil]); first | done | rfl | (simp only [List.length_drop, List.length_take]; rfl)) ?_; (with_reducible refine (spec_l04Is.calls k gb325 t321 t322 t323 t324 a0_4 a0_5 a0_6 a0_7 (wrap64 (a0_8 + 1500)) false _ ?side1 A7.out).mono ?_); (case side1 => (with_reducible repeat (first | refine Zn ?_ _ | refine Zd ?_ | refine Za ?_ _)); refine blk_put (cs := #[.int .i64 t321, .int .i64 t322, .int .i64 t323, .int .i64 t324, .int .i64 a0_4, .int .i64 a0_5, .int .i64 a0_6, .int .i64 a0_7, .int .i64 0]) ?_ 8 _ rfl; (with_reducible repeat (first | refine Zn ?_ _ | refine Zd ?_ | refine Za ?_ _)); refine blk_put (cs := #[.int .i64 t321, .int .i64 t322, .int .i64 t323, .int .i64 t324, .int .i64 a0_4, .int .i64 a0_5, .int .i64 a0_6, .int .i64 0, .int .i64 0]) ?_ 7 _ rfl; (with_reducible repeat (first | refine Zn ?_ _ | refine Zd ?_ | refine Za ?_ _)); refine blk_put (cs := #[.int .i64 t321, .int .i64 t322, .int .i64 t323, .int .i64 t324, .int .i64 a0_4, .int .i64 a0_5, .int .i64 0, .int .i64 0, .int .i64 0]) ?_ 6 _ rfl; (with_reducible repeat (first | refine Zn ?_ _ | refine Zd ?_ | refine Za ?_ _)); refine blk_put (cs := #[.int .i64 t321, .int .i64 t322, .int .i64 t323, .int .i64 t324, .int .i64 a0_4, .int .i64 0, .int .i64 0, .int .i64 0, .int .i64 0]) ?_ 5 _ rfl; (with_reducible repeat (first | refine Zn ?_ _ | refine Zd ?_ | refine Za ?_ _)); refine blk_put (cs := #[.int .i64 t321, .int .i64 t322, .int .i64 t323, .int .i64 t324, .int .i64 0, .int .i64 0, .int .i64 0, .int .i64 0, .int .i64 0]) ?_ 4 _ rfl; (with_reducible repeat (first | refine Zn ?_ _ | refine Zd ?_ | refine Za ?_ _)); refine blk_put (cs := #[.int .i64 t321, .int .i64 t322, .int .i64 t323, .int .i64 0, .int .i64 0, .int .i64 0, .int .i64 0, .int .i64 0, .int .i64 0]) ?_ 3 _ rfl; (with_reducible repeat (first | refine Zn ?_ _ | refine Zd ?_ | refine Za ?_ _)); refine blk_put (cs := #[.int .i64 t321, .int .i64 t322, .int .i64 0, .int .i64 0, .int .i64 0, .int .i64 0, .int .i64 0, .int .i64 0, .int .i64 0]) ?_ 2 _ rfl; (with_reducible repeat (first | refine Zn ?_ _ | refine Zd ?_ | refine Za ?_ _)); refine blk_put (cs := #[.int .i64 t321, .int .i64 0, .int .i64 0, .int .i64 0, .int .i64 0, .int .i64 0, .int .i64 0, .int .i64 0, .int .i64 0]) ?_ 1 _ rfl; (with_reducible repeat (first | refine Zn ?_ _ | refine Zd ?_ | refine Za ?_ _)); refine blk_put (cs := #[.int .i64 0, .int .i64 0, .int .i64 0, .int .i64 0, .int .i64 0, .int .i64 0, .int .i64 0, .int .i64 0, .int .i64 0]) ?_ 0 _ rfl; (with_reducible repeat (first | refine Zn ?_ _ | refine Zd ?_ | refine Za ?_ _)); exact BK325.out); rintro e w43 ⟨rfl, hb⟩; refine ⟨_, rfl, ?_⟩; have n0_ := Zm (blk_below (g := gp0) (o := .cells #[.int .i64 a0_0, .int .i64 a0_1, .int .i64 a0_2, .int .i64 a0_3, .int .i64 a0_4, .int .i64 a0_5, .int .i64 a0_6, .int .i64 a0_7, .int .i64 a0_8] 27 (0, 0)) (by (with_reducible repeat (first | refine Zn ?_ _ | refine Zd ?_ | refine Za ?_ _)); refine blk_far ?_ NB0_325.out _; (with_reducible repeat (first | refine Zn ?_ _ | refine Zd ?_ | refine Za ?_ _)); refine blk_far ?_ NB0_325.out _; (with_reducible repeat (first | refine Zn ?_ _ | refine Zd ?_ | refine Za ?_ _)); refine blk_far ?_ NB0_325.out _; (with_reducible repeat (first | refine Zn ?_ _ | refine Zd ?_ | refine Za ?_ _)); refine blk_far ?_ NB0_325.out _; (with_reducible repeat (first | refine Zn ?_ _ | refine Zd ?_ | refine Za ?_ _)); refine blk_far ?_ NB0_325.out _; (with_reducible repeat (first | refine Zn ?_ _ | refine Zd ?_ | refine Za ?_ _)); refine blk_far ?_ NB0_325.out _; (with_reducible repeat (first | refine Zn ?_ _ | refine Zd ?_ | refine Za ?_ _)); refine blk_far ?_ NB0_325.out _; (with_reducible repeat (first | refine Zn ?_ _ | refine Zd ?_ | refine Za ?_ _)); refine blk_far ?_ NB0_325.out _; (with_reducible repeat (first | refine Zn ?_ _ | refine Zd ?_ | refine Za ?_ _)); refine blk_far ?_ NB0_325.out _; (with_reducible repeat (first | refine Zn ?_ _ | refine Zd ?_ | refine Za ?_ _)); exact BK0.out) hb); have n1_ := Zm (blk_below (g := gb319) (o := .cells #[.int .i64 0, .int .i64 0, .int .i64 0, .int .i64 0, .int .i64 0, .int .i64 0, .int .i64 0, .int .i64 0, .int .i64 0] 27 (0, 0)) (by (with_reducible repeat (first | refine Zn ?_ _ | refine Zd ?_ | refine Za ?_ _)); refine blk_far ?_ NB319_325.out _; (with_reducible repeat (first | refine Zn ?_ _ | refine Zd ?_ | refine Za ?_ _)); refine blk_far ?_ NB319_325.out _; (with_reducible repeat (first | refine Zn ?_ _ | refine Zd ?_ | refine Za ?_ _)); refine blk_far ?_ NB319_325.out _; (with_reducible repeat (first | refine Zn ?_ _ | refine Zd ?_ | refine Za ?_ _)); refine blk_far ?_ NB319_325.out _; (with_reducible repeat (first | refine Zn ?_ _ | refine Zd ?_ | refine Za ?_ _)); refine blk_far ?_ NB319_325.out _; (with_reducible repeat (first | refine Zn ?_ _ | refine Zd ?_ | refine Za ?_ _)); refine blk_far ?_ NB319_325.out _; (with_reducible repeat (first | refine Zn ?_ _ | refine Zd ?_ | refine Za ?_ _)); refine blk_far ?_ NB319_325.out _; (with_reducible repeat (first | refine Zn ?_ _ | refine Zd ?_ | refine Za ?_ _)); refine blk_far ?_ NB319_325.out _; (with_reducible repeat (first | refine Zn ?_ _ | refine Zd ?_ | refine Za ?_ _)); refine blk_far ?_ NB319_325.out _; (with_reducible repeat (first | refine Zn ?_ _ | refine Zd ?_ | refine Za ?_ _)); exact BK319.out) hb); have n2_ := Zm (blk_below (g := gb325) (o := .cells #[.int .i64 t321, .int .i64 t322, .int .i64 t323, .int .i64 t324, .int .i64 a0_4, .int .i64 a0_5, .int .i64 a0_6, .int .i64 a0_7, .int .i64 (wrap64 (a0_8 + 1500))] 27 (0, 0)) (by (with_reducible repeat (first | refine Zn ?_ _ | refine Zd ?_ | refine Za ?_ _)); refine blk_put (cs := #[.int .i64 t321, .int .i64 t322, .int .i64 t323, .int .i64 t324, .int .i64 a0_4, .int .i64 a0_5, .int .i64 a0_6, .int .i64 a0_7, .int .i64 0]) ?_ 8 _ rfl; (with_reducible repeat (first | refine Zn ?_ _ | refine Zd ?_ | refine Za ?_ _)); refine blk_put (cs := #[.int .i64 t321, .int .i64 t322, .int .i64 t323, .int .i64 t324, .int .i64 a0_4, .int .i64 a0_5, .int .i64 a0_6, .int .i64 0, .int .i64 0]) ?_ 7 _ rfl; (with_reducible repeat (first | refine Zn ?_ _ | refine Zd ?_ | refine Za ?_ _)); refine blk_put (cs := #[.int .i64 t321, .int .i64 t322, .int .i64 t323, .int .i64 t324, .int .i64 a0_4, .int .i64 a0_5, .int .i64 0, .int .i64 0, .int .i64 0]) ?_ 6 _ rfl; (with_reducible repeat (first | refine Zn ?_ _ | refine Zd ?_ | refine Za ?_ _)); refine blk_put (cs := #[.int .i64 t321, .int .i64 t322, .int .i64 t323, .int .i64 t324, .int .i64 a0_4, .int .i64 0, .int .i64 0, .int .i64 0, .int .i64 0]) ?_ 5 _ rfl; (with_reducible repeat (first | refine Zn ?_ _ | refine Zd ?_ | refine Za ?_ _)); refine blk_put (cs := #[.int .i64 t321, .int .i64 t322, .int .i64 t323, .int .i64 t324, .int .i64 0, .int .i64 0, .int .i64 0, .int .i64 0, .int .i64 0]) ?_ 4 _ rfl; (with_reducible repeat (first | refine Zn ?_ _ | refine Zd ?_ | refine Za ?_ _)); refine blk_put (cs := #[.int .i64 t321, .int .i64 t322, .int .i64 t323, .int .i64 0, .int .i64 0, .int .i64 0, .int .i64 0, .int .i64 0, .int .i64 0]) ?_ 3 _ rfl; (with_reducible repeat (first | refine Zn ?_ _ | refine Zd ?_ | refine Za ?_ _)); refine blk_put (cs := #[.int .i64 t321, .int .i64 t322, .int .i64 0, .int .i64 0, .int .i64 0, .int .i64 0, .int .i64 0, .int .i64 0, .int .i64 0]) ?_ 2 _ rfl; (with_reducible repeat (first | refine Zn ?_ _ | refine Zd ?_ | refine Za ?_ _)); refine blk_put (cs := #[.int .i64 t321, .int .i64 0, .int .i64 0, .int .i64 0, .int .i64 0, .int .i64 0, .int .i64 0, .int .i64 0, .int .i64 0]) ?_ 1 _ rfl; (with_reducible repeat (first | refine Zn ?_ _ | refine Zd ?_ | refine Za ?_ _)); refine blk_put (cs := #[.int .i64 0, .int .i64 0, .int .i64 0, .int .i64 0, .int .i64 0, .int .i64 0, .int .i64 0, .int .i64 0, .int .i64 0]) ?_ 0 _ rfl; (with_reducible repeat (first | refine Zn ?_ _ | refine Zd ?_ | refine Za ?_ _)); exact BK325.out) hb); have n3_ := Zm (below_step (by repeat (first | (with_reducible first | exact HB.out | apply Zl | apply Zp | apply Ze | refine Zs ?_ GE0.out | refine Zs ?_ GE319.out | refine Zs ?_ GE325.out) | exact HB.out)) hb); clear BK0; clear BK319; clear BK325; clear HB; have BK0 := n0_; have BK319 := n1_; have BK325 := n2_; have HB := n3_; clear n0_ n1_ n2_ n3_; (try clear hb); (try clear hb2); (try clear hk); (try clear hi); have hnb44 := NB319_0.out; have hnc44 := NB0_319.out; have hnb45 := NB319_325.out; have hnc45 := NB325_319.out; have hcz46_0 : w43.cell? ⟨gb319, 0, none⟩ = some (.int .i64 0) := (Zc BK319.out 0).trans rfl; have hcz46_1 : w43.cell? ⟨gb319, 1, none⟩ = some (.int .i64 0) := (Zc BK319.out 1).trans rfl; have hcz46_2 : w43.cell? ⟨gb319, 2, none⟩ = some (.int .i64 0) := (Zc BK319.out 2).trans rfl; have hcz46_3 : w43.cell? ⟨gb319, 3, none⟩ = some (.int .i64 0) := (Zc BK319.out 3).trans rfl; have hcz46_4 : w43.cell? ⟨gb319, 4, none⟩ = some (.int .i64 0) := (Zc BK319.out 4).trans rfl; have hcz46_5 : w43.cell? ⟨gb319, 5, none⟩ = some (.int .i64 0) := (Zc BK319.out 5).trans rfl; have hcz46_6 : w43.cell? ⟨gb319, 6, none⟩ = some (.int .i64 0) := (Zc BK319.out 6).trans rfl; have hcz46_7 : w43.cell? ⟨gb319, 7, none⟩ = some (.int .i64 0) := (Zc BK319.out 7).trans rfl; have hcz46_8 : w43.cell? ⟨gb319, 8, none⟩ = some (.int .i64 0) := (Zc BK319.out 8).trans rfl; have hfz46_0 := Zf BK319.out 0; have hfz46_1 := Zf BK319.out 1; have hfz46_2 := Zf BK319.out 2; have hfz46_3 := Zf BK319.out 3; have hfz46_4 := Zf BK319.out 4; have hfz46_5 := Zf BK319.out 5; have hfz46_6 := Zf BK319.out 6; have hfz46_7 := Zf BK319.out 7; have hfz46_8 := Zf BK319.out 8))
   refine bodyPost_ret (results_ct rfl _ _ gb319 27 #[.int .i64 0, .int .i64 0, .int .i64 0, .int .i64 0, .int .i64 0, .int .i64 0, .int .i64 0, .int .i64 0, .int .i64 0] (0, 0) _ rfl (by (with_reducible repeat (first | refine Zn ?_ _ | refine Zd ?_ | refine Za ?_ _)); refine blk_put (cs := #[.int .i64 0, .int .i64 0, .int .i64 0, .int .i64 0, .int .i64 0, .int .i64 0, .int .i64 0, .int .i64 0, .int .i64 0]) ?_ 8 _ rfl; (with_reducible repeat (first | refine Zn ?_ _ | refine Zd ?_ | refine Za ?_ _)); refine blk_put (cs := #[.int .i64 0, .int .i64 0, .int .i64 0, .int .i64 0, .int .i64 0, .int .i64 0, .int .i64 0, .int .i64 0, .int .i64 0]) ?_ 7 _ rfl; (with_reducible repeat (first | refine Zn ?_ _ | refine Zd ?_ | refine Za ?_ _)); refine blk_put (cs := #[.int .i64 0, .int .i64 0, .int .i64 0, .int .i64 0, .int .i64 0, .int .i64 0, .int .i64 0, .int .i64 0, .int .i64 0]) ?_ 6 _ rfl; (with_reducible repeat (first | refine Zn ?_ _ | refine Zd ?_ | refine Za ?_ _)); refine blk_put (cs := #[.int .i64 0, .int .i64 0, .int .i64 0, .int .i64 0, .int .i64 0, .int .i64 0, .int .i64 0, .int .i64 0, .int .i64 0]) ?_ 5 _ rfl; (with_reducible repeat (first | refine Zn ?_ _ | refine Zd ?_ | refine Za ?_ _)); refine blk_put (cs := #[.int .i64 0, .int .i64 0, .int .i64 0, .int .i64 0, .int .i64 0, .int .i64 0, .int .i64 0, .int .i64 0, .int .i64 0]) ?_ 4 _ rfl; (with_reducible repeat (first | refine Zn ?_ _ | refine Zd ?_ | refine Za ?_ _)); refine blk_put (cs := #[.int .i64 0, .int .i64 0, .int .i64 0, .int .i64 0, .int .i64 0, .int .i64 0, .int .i64 0, .int .i64 0, .int .i64 0]) ?_ 3 _ rfl; (with_reducible repeat (first | refine Zn ?_ _ | refine Zd ?_ | refine Za ?_ _)); refine blk_put (cs := #[.int .i64 0, .int .i64 0, .int .i64 0, .int .i64 0, .int .i64 0, .int .i64 0, .int .i64 0, .int .i64 0, .int .i64 0]) ?_ 2 _ rfl; (with_reducible repeat (first | refine Zn ?_ _ | refine Zd ?_ | refine Za ?_ _)); refine blk_put (cs := #[.int .i64 0, .int .i64 0, .int .i64 0, .int .i64 0, .int .i64 0, .int .i64 0, .int .i64 0, .int .i64 0, .int .i64 0]) ?_ 1 _ rfl; (with_reducible repeat (first | refine Zn ?_ _ | refine Zd ?_ | refine Za ?_ _)); refine blk_put (cs := #[.int .i64 0, .int .i64 0, .int .i64 0, .int .i64 0, .int .i64 0, .int .i64 0, .int .i64 0, .int .i64 0, .int .i64 0]) ?_ 0 _ rfl; (with_reducible repeat (first | refine Zn ?_ _ | refine Zd ?_ | refine Za ?_ _)); exact BK319.out) Try.underlying27 rfl (by kernel_rfl)) rfl ?_
   exact ⟨by first | rfl | (simp [errW_none, errW_some] <;> rfl) | (simp [*, errW_none, errW_some] <;> rfl), by repeat (first | (with_reducible first | exact HB.out | apply Zl | apply Zp | apply Ze | refine Zs ?_ GE0.out | refine Zs ?_ GE319.out | refine Zs ?_ GE325.out) | exact HB.out)⟩
 ·replace c5 := Bool.eq_false_iff.mpr c5
  subst c5
  have H1 : (some (0, 0, 0, 0, 0, 0, 0, 0, 0, false)) = some (r1, r2, r3, r4, r5, r6, r7, r8, r9, r10) := by rw [if_neg (show ¬ (false = true) by decide)] at H; exact H
  clear H
  have H := H1
  clear H1
  simp only [Option.some.injEq, Prod.mk.injEq] at H
  obtain ⟨rfl, rfl, rfl, rfl, rfl, rfl, rfl, rfl, rfl, rfl⟩ := H
  go_enter Try.func78, Try.ntmps78
  go_wp2_with (first | ((with_reducible refine gate_dst (N := 6) rfl ?_); refine box_event ?hg (N := 6) ?hd (cs := #[.int .i64 0, .int .i64 0, .int .i64 0, .int .i64 0, .int .i64 0, .int .i64 0, .int .i64 0, .int .i64 0, .int .i64 0]) (t := 27) ?hr ?_; (case hd => rfl); (case hg => rfl); (case hr => first | (go_simp; done) | (go_simp; rfl)); intro gb319 hg w47 hbox hb; have n0_ := Zm (blk_below (g := gp0) (o := .cells #[.int .i64 a0_0, .int .i64 a0_1, .int .i64 a0_2, .int .i64 a0_3, .int .i64 a0_4, .int .i64 a0_5, .int .i64 a0_6, .int .i64 a0_7, .int .i64 a0_8] 27 (0, 0)) (by (with_reducible repeat (first | refine Zn ?_ _ | refine Zd ?_ | refine Za ?_ _)); exact BK0.out) hb); have n1_ := Zm (below_step (by repeat (first | (with_reducible first | exact HB.out | apply Zl | apply Zp | apply Ze | refine Zs ?_ GE0.out) | exact HB.out)) hb); have n2_ := Zm (hbox); have n3_ := Zm ((by rw [hg]; exact (below_size (by repeat (first | (with_reducible first | exact HB.out | apply Zl | apply Zp | apply Ze | refine Zs ?_ GE0.out) | exact HB.out))) : w.heap.size ≤ gb319)); have n4_ := Zm ((by rw [hg]; exact (below_size (by repeat (first | (with_reducible first | exact HB.out | apply Zl | apply Zp | apply Ze | refine Zs ?_ GE0.out) | exact HB.out))) : w.heap.size ≤ gb319)); have n5_ := Zm ((by rw [hg]; exact Nat.ne_of_lt (blk_lt (g := gp0) (o := .cells #[.int .i64 a0_0, .int .i64 a0_1, .int .i64 a0_2, .int .i64 a0_3, .int .i64 a0_4, .int .i64 a0_5, .int .i64 a0_6, .int .i64 a0_7, .int .i64 a0_8] 27 (0, 0)) (by (with_reducible repeat (first | refine Zn ?_ _ | refine Zd ?_ | refine Za ?_ _)); exact BK0.out)) : gp0 ≠ gb319)); have n6_ := Zm ((by rw [hg]; exact Nat.ne_of_gt (blk_lt (g := gp0) (o := .cells #[.int .i64 a0_0, .int .i64 a0_1, .int .i64 a0_2, .int .i64 a0_3, .int .i64 a0_4, .int .i64 a0_5, .int .i64 a0_6, .int .i64 a0_7, .int .i64 a0_8] 27 (0, 0)) (by (with_reducible repeat (first | refine Zn ?_ _ | refine Zd ?_ | refine Za ?_ _)); exact BK0.out)) : gb319 ≠ gp0)); clear BK0; clear HB; have BK0 := n0_; have HB := n1_; have BK319 := n2_; have GW319 := n3_; have GE319 := n4_; have NB0_319 := n5_; have NB319_0 := n6_; clear n0_ n1_ n2_ n3_ n4_ n5_ n6_; clear hb hbox hg) | ((with_reducible refine gate_callee (f := 87) rfl ?_); refine goesL_ (some 11) rfl rfl Try.func87 (by kernel_rfl) rfl #[.int .i64 a1, .int .i64 a2] rfl (by (try simp only [List.map_toArray, List.map_cons, List.map_nil]); first | done | rfl | (simp only [List.length_drop, List.length_take]; rfl)) ?_; (with_reducible refine (spec_l02Turn.calls a1 a2 false _ A4.out).mono ?_); rintro e w' ⟨rfl, ⟨nd, rfl⟩⟩; refine ⟨_, rfl, ?_⟩; (try (rw [drewN_self w47]; generalize hq_ : World.drewN w47 _ = w47; have n0_ : Aside0 (w47.heap[gp0]? = some (.cells #[.int .i64 a0_0, .int .i64 a0_1, .int .i64 a0_2, .int .i64 a0_3, .int .i64 a0_4, .int .i64 a0_5, .int .i64 a0_6, .int .i64 a0_7, .int .i64 a0_8] 27 (0, 0))) := ⟨by rw [← hq_]; exact (by (with_reducible repeat (first | refine Zn ?_ _ | refine Zd ?_ | refine Za ?_ _)); exact BK0.out)⟩; have n1_ : Aside0 (w47.heap[gb319]? = some (.cells #[.int .i64 0, .int .i64 0, .int .i64 0, .int .i64 0, .int .i64 0, .int .i64 0, .int .i64 0, .int .i64 0, .int .i64 0] 27 (0, 0))) := ⟨by rw [← hq_]; exact (by (with_reducible repeat (first | refine Zn ?_ _ | refine Zd ?_ | refine Za ?_ _)); exact BK319.out)⟩; have n2_ : Aside0 (Below w.heap.size w w47) := ⟨by rw [← hq_]; exact (by repeat (first | (with_reducible first | exact HB.out | apply Zl | apply Zp | apply Ze | refine Zs ?_ GE0.out | refine Zs ?_ GE319.out) | exact HB.out))⟩; clear BK0 BK319 HB hq_; have BK0 := n0_; have BK319 := n1_; have HB := n2_; clear n0_ n1_ n2_)); have hnb48 := NB319_0.out; have hnc48 := NB0_319.out; have hcz49_0 : w47.cell? ⟨gb319, 0, none⟩ = some (.int .i64 0) := (Zc BK319.out 0).trans rfl; have hcz49_1 : w47.cell? ⟨gb319, 1, none⟩ = some (.int .i64 0) := (Zc BK319.out 1).trans rfl; have hcz49_2 : w47.cell? ⟨gb319, 2, none⟩ = some (.int .i64 0) := (Zc BK319.out 2).trans rfl; have hcz49_3 : w47.cell? ⟨gb319, 3, none⟩ = some (.int .i64 0) := (Zc BK319.out 3).trans rfl; have hcz49_4 : w47.cell? ⟨gb319, 4, none⟩ = some (.int .i64 0) := (Zc BK319.out 4).trans rfl; have hcz49_5 : w47.cell? ⟨gb319, 5, none⟩ = some (.int .i64 0) := (Zc BK319.out 5).trans rfl; have hcz49_6 : w47.cell? ⟨gb319, 6, none⟩ = some (.int .i64 0) := (Zc BK319.out 6).trans rfl; have hcz49_7 : w47.cell? ⟨gb319, 7, none⟩ = some (.int .i64 0) := (Zc BK319.out 7).trans rfl; have hcz49_8 : w47.cell? ⟨gb319, 8, none⟩ = some (.int .i64 0) := (Zc BK319.out 8).trans rfl; have hfz49_0 := Zf BK319.out 0; have hfz49_1 := Zf BK319.out 1; have hfz49_2 := Zf BK319.out 2; have hfz49_3 := Zf BK319.out 3; have hfz49_4 := Zf BK319.out 4; have hfz49_5 := Zf BK319.out 5; have hfz49_6 := Zf BK319.out 6; have hfz49_7 := Zf BK319.out 7; have hfz49_8 := Zf BK319.out 8))
  refine bodyPost_ret (results_ct rfl _ _ gb319 27 #[.int .i64 0, .int .i64 0, .int .i64 0, .int .i64 0, .int .i64 0, .int .i64 0, .int .i64 0, .int .i64 0, .int .i64 0] (0, 0) _ rfl (by (with_reducible repeat (first | refine Zn ?_ _ | refine Zd ?_ | refine Za ?_ _)); refine blk_put (cs := #[.int .i64 0, .int .i64 0, .int .i64 0, .int .i64 0, .int .i64 0, .int .i64 0, .int .i64 0, .int .i64 0, .int .i64 0]) ?_ 8 _ rfl; (with_reducible repeat (first | refine Zn ?_ _ | refine Zd ?_ | refine Za ?_ _)); refine blk_put (cs := #[.int .i64 0, .int .i64 0, .int .i64 0, .int .i64 0, .int .i64 0, .int .i64 0, .int .i64 0, .int .i64 0, .int .i64 0]) ?_ 7 _ rfl; (with_reducible repeat (first | refine Zn ?_ _ | refine Zd ?_ | refine Za ?_ _)); refine blk_put (cs := #[.int .i64 0, .int .i64 0, .int .i64 0, .int .i64 0, .int .i64 0, .int .i64 0, .int .i64 0, .int .i64 0, .int .i64 0]) ?_ 6 _ rfl; (with_reducible repeat (first | refine Zn ?_ _ | refine Zd ?_ | refine Za ?_ _)); refine blk_put (cs := #[.int .i64 0, .int .i64 0, .int .i64 0, .int .i64 0, .int .i64 0, .int .i64 0, .int .i64 0, .int .i64 0, .int .i64 0]) ?_ 5 _ rfl; (with_reducible repeat (first | refine Zn ?_ _ | refine Zd ?_ | refine Za ?_ _)); refine blk_put (cs := #[.int .i64 0, .int .i64 0, .int .i64 0, .int .i64 0, .int .i64 0, .int .i64 0, .int .i64 0, .int .i64 0, .int .i64 0]) ?_ 4 _ rfl; (with_reducible repeat (first | refine Zn ?_ _ | refine Zd ?_ | refine Za ?_ _)); refine blk_put (cs := #[.int .i64 0, .int .i64 0, .int .i64 0, .int .i64 0, .int .i64 0, .int .i64 0, .int .i64 0, .int .i64 0, .int .i64 0]) ?_ 3 _ rfl; (with_reducible repeat (first | refine Zn ?_ _ | refine Zd ?_ | refine Za ?_ _)); refine blk_put (cs := #[.int .i64 0, .int .i64 0, .int .i64 0, .int .i64 0, .int .i64 0, .int .i64 0, .int .i64 0, .int .i64 0, .int .i64 0]) ?_ 2 _ rfl; (with_reducible repeat (first | refine Zn ?_ _ | refine Zd ?_ | refine Za ?_ _)); refine blk_put (cs := #[.int .i64 0, .int .i64 0, .int .i64 0, .int .i64 0, .int .i64 0, .int .i64 0, .int .i64 0, .int .i64 0, .int .i64 0]) ?_ 1 _ rfl; (with_reducible repeat (first | refine Zn ?_ _ | refine Zd ?_ | refine Za ?_ _)); refine blk_put (cs := #[.int .i64 0, .int .i64 0, .int .i64 0, .int .i64 0, .int .i64 0, .int .i64 0, .int .i64 0, .int .i64 0, .int .i64 0]) ?_ 0 _ rfl; (with_reducible repeat (first | refine Zn ?_ _ | refine Zd ?_ | refine Za ?_ _)); exact BK319.out) Try.underlying27 rfl (by kernel_rfl)) rfl ?_
  exact ⟨by first | rfl | (simp [errW_none, errW_some] <;> rfl) | (simp [*, errW_none, errW_some] <;> rfl), by repeat (first | (with_reducible first | exact HB.out | apply Zl | apply Zp | apply Ze | refine Zs ?_ GE0.out | refine Zs ?_ GE319.out) | exact HB.out)⟩

end Go.Proofs.Ytncdmooobfomeaa.G
