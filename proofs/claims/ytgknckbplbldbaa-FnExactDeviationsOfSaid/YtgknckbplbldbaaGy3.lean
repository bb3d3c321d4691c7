-- laid by wip/tools/regroup.py: printed functions, grouped by the laws that need them. Lean checks it.
import Derived.Test.YtgknckbplbldbaaGx0
import Derived.Test.YtgknckbplbldbaaGy0
import Derived.Test.YtgknckbplbldbaaGy1
import Derived.Test.YtgknckbplbldbaaGy2
namespace Go.Proofs.Ytgknckbplbldbaa.G
open Go.RowKit Go.Proofs.YtgknckbplbldbaaW.PrintWords Go.Proofs.YtgknckbplbldbaaW.PrintLast Go.Proofs.YtgknckbplbldbaaW.PrintMore
attribute [local go_sem] max2_int min2_int max_two min_two max_three min_three max_four min_four   -- for this text's walks alone
set_option linter.unusedVariables false
set_option linter.unusedSimpArgs false

/-! ### laws_FnExactDeviationsOf: function 5 -/
mutual
def laws_FnExactDeviationsOf.j0 : Nat → List (S23) → List Int → Bool → List (S28) → List Int → Bool → Bool → Int → Int → Int → Int → List (S79) → Int → Int → Int → Int → List (S65) → Option (Bool)
 | 0, _, _, _, _, _, _, _, _, _, _, _, _, _, _, _, _, _ => none
 | k + 1, x1, x6, x7, x9, x10, x11, x53, x463000, x463001, x463002, x463003, x463004, x487000, x487001, x487002, x487003, x487004 => if x53 = true then (some false) else ((laws_toAxis.f k x463000 x463001 x463002 x463003 x463004).bind fun bt495 => ((laws_eqAxis.f k x487000 x487001 x487002 x487003 x487004 bt495.1 bt495.2.1 bt495.2.2.1 bt495.2.2.2.1 bt495.2.2.2.2).bind fun t502 => (if t502 = true then ((laws_toPoseS.f k x1).bind fun t503 => ((laws_eqPoseS.f k x9 t503).bind fun t506 => (if t506 = true then ((laws_markAxis.f k x487000 x487001 x487002 x487003 x487004 1).bind fun bt507 => ((laws_markPoseS.f k x9 bt507.1).bind fun bt509 => (if bt509.1 < 0 then (laws_FnExactDeviationsOf.j1 k x1 x6 x7 x10 true x463000 x463001 x463002 x463003 x463004) else ((laws_eqInt64S.f k x10 x6).bind fun t511 => (if t511 = true then (laws_FnExactDeviationsOf.j1 k x1 x6 x7 x10 (x11 != x7) x463000 x463001 x463002 x463003 x463004) else (laws_FnExactDeviationsOf.j1 k x1 x6 x7 x10 true x463000 x463001 x463002 x463003 x463004)))))) else (some false)))) else (some false))))
def laws_FnExactDeviationsOf.j1 : Nat → List (S23) → List Int → Bool → List Int → Bool → Int → Int → Int → Int → List (S79) → Option (Bool)
 | 0, _, _, _, _, _, _, _, _, _, _ => none
 | k + 1, x1, x6, x7, x10, x82, x463000, x463001, x463002, x463003, x463004 => if x82 = true then (some false) else ((laws_markInt64S.f k x10 1).bind fun bt512 => ((laws_heldInt64S.f k bt512.2 1).bind fun t514 => (if t514 < 0 then (some false) else (if t514 = bt512.1 then ((laws_toAxis.f k x463000 x463001 x463002 x463003 x463004).bind fun bt515 => ((laws_toPoseS.f k x1).bind fun t522 => ((impl_DeviationsOf.f k bt515.1 bt515.2.1 bt515.2.2.1 bt515.2.2.2.1 bt515.2.2.2.2 t522).bind fun bt525 => ((laws_eqInt64S.f k bt525.1 x6).bind fun t529 => (if t529 = true then (laws_FnExactDeviationsOf.j2 k bt512.2 bt512.1 (bt525.2 != x7)) else (laws_FnExactDeviationsOf.j2 k bt512.2 bt512.1 true)))))) else (some false)))))
def laws_FnExactDeviationsOf.j2 : Nat → List Int → Int → Bool → Option (Bool)
 | 0, _, _, _ => none
 | k + 1, x10, x13, x110 => if x110 = true then (some false) else ((laws_heldInt64S.f k x10 1).bind fun t530 => (if t530 < 0 then (some false) else (if t530 = x13 then (some true) else (some false))))
end
def laws_FnExactDeviationsOf.f (k : Nat) (a0_0 : Int) (a0_1 : Int) (a0_2 : Int) (a0_3 : Int) (l0_4 : List (S79)) (l1 : List (S23)) : Option (Bool) := (laws_szAxis.f a0_0 a0_1 a0_2 a0_3 l0_4 1048576).bind fun t463 => (if t463 < 0 then (some true) else ((laws_szPoseS.f l1 t463).bind fun t464 => (if t464 < 0 then (some true) else ((laws_toAxis.f k a0_0 a0_1 a0_2 a0_3 l0_4).bind fun bt465 => ((laws_toPoseS.f k l1).bind fun t472 => ((spec_DeviationsOf.f k bt465.1 bt465.2.1 bt465.2.2.1 bt465.2.2.2.1 bt465.2.2.2.2 t472).bind fun bt475 => ((laws_toAxis.f k a0_0 a0_1 a0_2 a0_3 l0_4).bind fun bt479 => ((laws_toPoseS.f k l1).bind fun t487 => ((impl_DeviationsOf.f k bt479.1 bt479.2.1 bt479.2.2.1 bt479.2.2.2.1 bt479.2.2.2.2 t487).bind fun bt490 => ((laws_eqInt64S.f k bt490.1 bt475.1).bind fun t494 => (if t494 = true then (laws_FnExactDeviationsOf.j0 k l1 bt475.1 bt475.2 t487 bt490.1 bt490.2 (bt490.2 != bt475.2) a0_0 a0_1 a0_2 a0_3 l0_4 bt479.1 bt479.2.1 bt479.2.2.1 bt479.2.2.2.1 bt479.2.2.2.2) else (laws_FnExactDeviationsOf.j0 k l1 bt475.1 bt475.2 t487 bt490.1 bt490.2 true a0_0 a0_1 a0_2 a0_3 l0_4 bt479.1 bt479.2.1 bt479.2.2.1 bt479.2.2.2.1 bt479.2.2.2.2))))))))))))
theorem laws_FnExactDeviationsOf.mono_l : ∀ k, (∀ y0 y1 y2 y3 y4 y5 y6 y7 y8 y9 y10 y11 y12 y13 y14 y15 y16, LeO (laws_FnExactDeviationsOf.j0 k y0 y1 y2 y3 y4 y5 y6 y7 y8 y9 y10 y11 y12 y13 y14 y15 y16) (laws_FnExactDeviationsOf.j0 (k + 1) y0 y1 y2 y3 y4 y5 y6 y7 y8 y9 y10 y11 y12 y13 y14 y15 y16)) ∧ (∀ y0 y1 y2 y3 y4 y5 y6 y7 y8 y9, LeO (laws_FnExactDeviationsOf.j1 k y0 y1 y2 y3 y4 y5 y6 y7 y8 y9) (laws_FnExactDeviationsOf.j1 (k + 1) y0 y1 y2 y3 y4 y5 y6 y7 y8 y9)) ∧ (∀ y0 y1 y2, LeO (laws_FnExactDeviationsOf.j2 k y0 y1 y2) (laws_FnExactDeviationsOf.j2 (k + 1) y0 y1 y2))
 | 0 => ⟨fun _ _ _ _ _ _ _ _ _ _ _ _ _ _ _ _ _ r h => by simp [laws_FnExactDeviationsOf.j0] at h, fun _ _ _ _ _ _ _ _ _ _ r h => by simp [laws_FnExactDeviationsOf.j1] at h, fun _ _ _ r h => by simp [laws_FnExactDeviationsOf.j2] at h⟩
 | k + 1 => by
  obtain ⟨ih0, ih1, ih2⟩ := laws_FnExactDeviationsOf.mono_l k
  refine ⟨?_, ?_, ?_⟩
  ·intro y0 y1 y2 y3 y4 y5 y6 y7 y8 y9 y10 y11 y12 y13 y14 y15 y16
   unfold laws_FnExactDeviationsOf.j0
   repeat' first
   | (with_reducible exact ih0 _ _ _ _ _ _ _ _ _ _ _ _ _ _ _ _ _)
   | (with_reducible exact ih1 _ _ _ _ _ _ _ _ _ _)
   | (with_reducible exact ih2 _ _ _)
   | (with_reducible exact impl_DeviationsOf.mono _ _ _ _ _ _ _)
   | (with_reducible exact laws_eqAxis.mono _ _ _ _ _ _ _ _ _ _ _)
   | (with_reducible exact laws_eqInt64S.mono _ _ _)
   | (with_reducible exact laws_eqPoseS.mono _ _ _)
   | (with_reducible exact laws_heldInt64S.mono _ _ _)
   | (with_reducible exact laws_markAxis.mono _ _ _ _ _ _ _)
   | (with_reducible exact laws_markInt64S.mono _ _ _)
   | (with_reducible exact laws_markPoseS.mono _ _ _)
   | (with_reducible exact laws_toAxis.mono _ _ _ _ _ _)
   | (with_reducible exact laws_toPoseS.mono _ _)
   | (with_reducible exact spec_DeviationsOf.mono _ _ _ _ _ _ _)
   | (with_reducible exact LeO.refl _)
   | (with_reducible exact LeO.none _)
   | (with_reducible refine LeO.ite ?_ ?_)
   | (with_reducible refine LeO.bind ?_ (fun _ => ?_))
   | exact ih0 _ _ _ _ _ _ _ _ _ _ _ _ _ _ _ _ _
   | exact ih1 _ _ _ _ _ _ _ _ _ _
   | exact ih2 _ _ _
   | exact impl_DeviationsOf.mono _ _ _ _ _ _ _
   | exact laws_eqAxis.mono _ _ _ _ _ _ _ _ _ _ _
   | exact laws_eqInt64S.mono _ _ _
   | exact laws_eqPoseS.mono _ _ _
   | exact laws_heldInt64S.mono _ _ _
   | exact laws_markAxis.mono _ _ _ _ _ _ _
   | exact laws_markInt64S.mono _ _ _
   | exact laws_markPoseS.mono _ _ _
   | exact laws_toAxis.mono _ _ _ _ _ _
   | exact laws_toPoseS.mono _ _
   | exact spec_DeviationsOf.mono _ _ _ _ _ _ _
   | exact LeO.none _
   | refine LeO.ite ?_ ?_
   | refine LeO.bind ?_ (fun _ => ?_)
  ·intro y0 y1 y2 y3 y4 y5 y6 y7 y8 y9
   unfold laws_FnExactDeviationsOf.j1
   repeat' first
   | (with_reducible exact ih0 _ _ _ _ _ _ _ _ _ _ _ _ _ _ _ _ _)
   | (with_reducible exact ih1 _ _ _ _ _ _ _ _ _ _)
   | (with_reducible exact ih2 _ _ _)
   | (with_reducible exact impl_DeviationsOf.mono _ _ _ _ _ _ _)
   | (with_reducible exact laws_eqAxis.mono _ _ _ _ _ _ _ _ _ _ _)
   | (with_reducible exact laws_eqInt64S.mono _ _ _)
   | (with_reducible exact laws_eqPoseS.mono _ _ _)
   | (with_reducible exact laws_heldInt64S.mono _ _ _)
   | (with_reducible exact laws_markAxis.mono _ _ _ _ _ _ _)
   | (with_reducible exact laws_markInt64S.mono _ _ _)
   | (with_reducible exact laws_markPoseS.mono _ _ _)
   | (with_reducible exact laws_toAxis.mono _ _ _ _ _ _)
   | (with_reducible exact laws_toPoseS.mono _ _)
   | (with_reducible exact spec_DeviationsOf.mono _ _ _ _ _ _ _)
   | (with_reducible exact LeO.refl _)
   | (with_reducible exact LeO.none _)
   | (with_reducible refine LeO.ite ?_ ?_)
   | (with_reducible refine LeO.bind ?_ (fun _ => ?_))
   | exact ih0 _ _ _ _ _ _ _ _ _ _ _ _ _ _ _ _ _
   | exact ih1 _ _ _ _ _ _ _ _ _ _
   | exact ih2 _ _ _
   | exact impl_DeviationsOf.mono _ _ _ _ _ _ _
   | exact laws_eqAxis.mono _ _ _ _ _ _ _ _ _ _ _
   | exact laws_eqInt64S.mono _ _ _
   | exact laws_eqPoseS.mono _ _ _
   | exact laws_heldInt64S.mono _ _ _
   | exact laws_markAxis.mono _ _ _ _ _ _ _
   | exact laws_markInt64S.mono _ _ _
   | exact laws_markPoseS.mono _ _ _
   | exact laws_toAxis.mono _ _ _ _ _ _
   | exact laws_toPoseS.mono _ _
   | exact spec_DeviationsOf.mono _ _ _ _ _ _ _
   | exact LeO.none _
   | refine LeO.ite ?_ ?_
   | refine LeO.bind ?_ (fun _ => ?_)
  ·intro y0 y1 y2
   unfold laws_FnExactDeviationsOf.j2
   repeat' first
   | (with_reducible exact ih0 _ _ _ _ _ _ _ _ _ _ _ _ _ _ _ _ _)
   | (with_reducible exact ih1 _ _ _ _ _ _ _ _ _ _)
   | (with_reducible exact ih2 _ _ _)
   | (with_reducible exact impl_DeviationsOf.mono _ _ _ _ _ _ _)
   | (with_reducible exact laws_eqAxis.mono _ _ _ _ _ _ _ _ _ _ _)
   | (with_reducible exact laws_eqInt64S.mono _ _ _)
   | (with_reducible exact laws_eqPoseS.mono _ _ _)
   | (with_reducible exact laws_heldInt64S.mono _ _ _)
   | (with_reducible exact laws_markAxis.mono _ _ _ _ _ _ _)
   | (with_reducible exact laws_markInt64S.mono _ _ _)
   | (with_reducible exact laws_markPoseS.mono _ _ _)
   | (with_reducible exact laws_toAxis.mono _ _ _ _ _ _)
   | (with_reducible exact laws_toPoseS.mono _ _)
   | (with_reducible exact spec_DeviationsOf.mono _ _ _ _ _ _ _)
   | (with_reducible exact LeO.refl _)
   | (with_reducible exact LeO.none _)
   | (with_reducible refine LeO.ite ?_ ?_)
   | (with_reducible refine LeO.bind ?_ (fun _ => ?_))
   | exact ih0 _ _ _ _ _ _ _ _ _ _ _ _ _ _ _ _ _
   | exact ih1 _ _ _ _ _ _ _ _ _ _
   | exact ih2 _ _ _
   | exact impl_DeviationsOf.mono _ _ _ _ _ _ _
   | exact laws_eqAxis.mono _ _ _ _ _ _ _ _ _ _ _
   | exact laws_eqInt64S.mono _ _ _
   | exact laws_eqPoseS.mono _ _ _
   | exact laws_heldInt64S.mono _ _ _
   | exact laws_markAxis.mono _ _ _ _ _ _ _
   | exact laws_markInt64S.mono _ _ _
   | exact laws_markPoseS.mono _ _ _
   | exact laws_toAxis.mono _ _ _ _ _ _
   | exact laws_toPoseS.mono _ _
   | exact spec_DeviationsOf.mono _ _ _ _ _ _ _
   | exact LeO.none _
   | refine LeO.ite ?_ ?_
   | refine LeO.bind ?_ (fun _ => ?_)
theorem laws_FnExactDeviationsOf.mono : ∀ a0 a1 a2 a3 a4 a5 k, LeO (laws_FnExactDeviationsOf.f k a0 a1 a2 a3 a4 a5) (laws_FnExactDeviationsOf.f (k + 1) a0 a1 a2 a3 a4 a5) := by
 intro a0 a1 a2 a3 a4 a5 k
 obtain ⟨ih0, ih1, ih2⟩ := laws_FnExactDeviationsOf.mono_l k
 unfold laws_FnExactDeviationsOf.f
 repeat' first
   | (with_reducible exact ih0 _ _ _ _ _ _ _ _ _ _ _ _ _ _ _ _ _)
   | (with_reducible exact ih1 _ _ _ _ _ _ _ _ _ _)
   | (with_reducible exact ih2 _ _ _)
   | (with_reducible exact impl_DeviationsOf.mono _ _ _ _ _ _ _)
   | (with_reducible exact laws_eqAxis.mono _ _ _ _ _ _ _ _ _ _ _)
   | (with_reducible exact laws_eqInt64S.mono _ _ _)
   | (with_reducible exact laws_eqPoseS.mono _ _ _)
   | (with_reducible exact laws_heldInt64S.mono _ _ _)
   | (with_reducible exact laws_markAxis.mono _ _ _ _ _ _ _)
   | (with_reducible exact laws_markInt64S.mono _ _ _)
   | (with_reducible exact laws_markPoseS.mono _ _ _)
   | (with_reducible exact laws_toAxis.mono _ _ _ _ _ _)
   | (with_reducible exact laws_toPoseS.mono _ _)
   | (with_reducible exact spec_DeviationsOf.mono _ _ _ _ _ _ _)
   | (with_reducible exact LeO.refl _)
   | (with_reducible exact LeO.none _)
   | (with_reducible refine LeO.ite ?_ ?_)
   | (with_reducible refine LeO.bind ?_ (fun _ => ?_))
   | exact ih0 _ _ _ _ _ _ _ _ _ _ _ _ _ _ _ _ _
   | exact ih1 _ _ _ _ _ _ _ _ _ _
   | exact ih2 _ _ _
   | exact impl_DeviationsOf.mono _ _ _ _ _ _ _
   | exact laws_eqAxis.mono _ _ _ _ _ _ _ _ _ _ _
   | exact laws_eqInt64S.mono _ _ _
   | exact laws_eqPoseS.mono _ _ _
   | exact laws_heldInt64S.mono _ _ _
   | exact laws_markAxis.mono _ _ _ _ _ _ _
   | exact laws_markInt64S.mono _ _ _
   | exact laws_markPoseS.mono _ _ _
   | exact laws_toAxis.mono _ _ _ _ _ _
   | exact laws_toPoseS.mono _ _
   | exact spec_DeviationsOf.mono _ _ _ _ _ _ _
   | exact LeO.none _
   | refine LeO.ite ?_ ?_
   | refine LeO.bind ?_ (fun _ => ?_)
set_option maxHeartbeats 8000000 in
set_option maxRecDepth 100000 in
theorem laws_FnExactDeviationsOf.calls (k : Nat) (a0_0 : Int) (a0_1 : Int) (a0_2 : Int) (a0_3 : Int) (A0_4 : Option Addr) (c0_4 : Nat) (l0_4 : List (S79)) (A1 : Option Addr) (c1 : Nat) (l1 : List (S23)) (r : Bool) (w : World) (hr0_4 : Kd.C k79 w A0_4 l0_4.length l0_4) (hc0_4 : l0_4.length ≤ c0_4) (hr1 : Kd.C k23 w A1 l1.length l1) (hc1 : l1.length ≤ c1) (h : laws_FnExactDeviationsOf.f k a0_0 a0_1 a0_2 a0_3 l0_4 l1 = some r) :
  Calls Try.prog 5 #[.agg #[.int .i64 a0_0, .int .i64 a0_1, .int .i64 a0_2, .int .i64 a0_3, .slice A0_4 l0_4.length c0_4], .slice A1 l1.length c1] w fun e w' => e = .returned (.bool r) ∧ Below w.heap.size w w' := by
 have hu26 := Try.underlying26
 have hu31 := Try.underlying31
 have HR0_4 := Aside0.mk hr0_4
 have HC0_4 := Aside0.mk hc0_4
 clear hr0_4 hc0_4
 have HR1 := Aside0.mk hr1
 have HC1 := Aside0.mk hc1
 clear hr1 hc1
 have HB := Aside0.mk (Below.refl w.heap.size w)
 have H : ((laws_szAxis.f a0_0 a0_1 a0_2 a0_3 l0_4 1048576).bind fun t463 => (if t463 < 0 then (some true) else ((laws_szPoseS.f l1 t463).bind fun t464 => (if t464 < 0 then (some true) else ((laws_toAxis.f k a0_0 a0_1 a0_2 a0_3 l0_4).bind fun bt465 => ((laws_toPoseS.f k l1).bind fun t472 => ((spec_DeviationsOf.f k bt465.1 bt465.2.1 bt465.2.2.1 bt465.2.2.2.1 bt465.2.2.2.2 t472).bind fun bt475 => ((laws_toAxis.f k a0_0 a0_1 a0_2 a0_3 l0_4).bind fun bt479 => ((laws_toPoseS.f k l1).bind fun t487 => ((impl_DeviationsOf.f k bt479.1 bt479.2.1 bt479.2.2.1 bt479.2.2.2.1 bt479.2.2.2.2 t487).bind fun bt490 => ((laws_eqInt64S.f k bt490.1 bt475.1).bind fun t494 => (if t494 = true then (laws_FnExactDeviationsOf.j0 k l1 bt475.1 bt475.2 t487 bt490.1 bt490.2 (bt490.2 != bt475.2) a0_0 a0_1 a0_2 a0_3 l0_4 bt479.1 bt479.2.1 bt479.2.2.1 bt479.2.2.2.1 bt479.2.2.2.2) else (laws_FnExactDeviationsOf.j0 k l1 bt475.1 bt475.2 t487 bt490.1 bt490.2 true a0_0 a0_1 a0_2 a0_3 l0_4 bt479.1 bt479.2.1 bt479.2.2.1 bt479.2.2.2.1 bt479.2.2.2.2))))))))))))) = some r := h
 clear h
 replace H := Option.bind_eq_some_iff.mp H
 obtain ⟨t463, A30, H⟩ := H
 replace H : (if t463 < 0 then (some true) else ((laws_szPoseS.f l1 t463).bind fun t464 => (if t464 < 0 then (some true) else ((laws_toAxis.f k a0_0 a0_1 a0_2 a0_3 l0_4).bind fun bt465 => ((laws_toPoseS.f k l1).bind fun t472 => ((spec_DeviationsOf.f k bt465.1 bt465.2.1 bt465.2.2.1 bt465.2.2.2.1 bt465.2.2.2.2 t472).bind fun bt475 => ((laws_toAxis.f k a0_0 a0_1 a0_2 a0_3 l0_4).bind fun bt479 => ((laws_toPoseS.f k l1).bind fun t487 => ((impl_DeviationsOf.f k bt479.1 bt479.2.1 bt479.2.2.1 bt479.2.2.2.1 bt479.2.2.2.2 t487).bind fun bt490 => ((laws_eqInt64S.f k bt490.1 bt475.1).bind fun t494 => (if t494 = true then (laws_FnExactDeviationsOf.j0 k l1 bt475.1 bt475.2 t487 bt490.1 bt490.2 (bt490.2 != bt475.2) a0_0 a0_1 a0_2 a0_3 l0_4 bt479.1 bt479.2.1 bt479.2.2.1 bt479.2.2.2.1 bt479.2.2.2.2) else (laws_FnExactDeviationsOf.j0 k l1 bt475.1 bt475.2 t487 bt490.1 bt490.2 true a0_0 a0_1 a0_2 a0_3 l0_4 bt479.1 bt479.2.1 bt479.2.2.1 bt479.2.2.2.1 bt479.2.2.2.2)))))))))))) = some r := H
 have A3 := Aside0.mk A30
 clear A30
 by_cases c4 : t463 < 0
 ·rw [if_pos c4] at H
  have c4b0 : decide (t463 < 0) = true := decide_eq_true c4
  clear c4
  obtain rfl := Option.some.inj H
  go_enter Try.func5, Try.ntmps5
  go_wp2_with (first | ((with_reducible refine gate_dst (N := 2) rfl ?_); refine box_event ?hg (N := 2) ?hd (cs := #[.int .i64 a0_0, .int .i64 a0_1, .int .i64 a0_2, .int .i64 a0_3, .slice A0_4 l0_4.length c0_4]) (t := 26) ?hr ?_; (case hd => rfl); (case hg => rfl); (case hr => first | (go_simp; done) | (go_simp; rfl)); intro gb462 hg w5 hbox hb; have n0_ := Aside0.mk (below_step (by repeat (first | (with_reducible first | exact HB.out | apply below_alloc | apply pw_below_drewN | apply below_drew1) | exact HB.out)) hb); have n1_ := Aside0.mk (hbox); have n2_ := Aside0.mk ((by rw [hg]; exact (below_size (by repeat (first | (with_reducible first | exact HB.out | apply below_alloc | apply pw_below_drewN | apply below_drew1) | exact HB.out))) : w.heap.size ≤ gb462)); have n3_ := Aside0.mk ((by rw [hg]; exact (below_size (by repeat (first | (with_reducible first | exact HB.out | apply below_alloc | apply pw_below_drewN | apply below_drew1) | exact HB.out))) : w.heap.size ≤ gb462)); clear HB; have HB := n0_; have BK462 := n1_; have GW462 := n2_; have GE462 := n3_; clear n0_ n1_ n2_ n3_; clear hb hbox hg; have hcz6_0 : w5.cell? ⟨gb462, 0, none⟩ = some (.int .i64 a0_0) := (blk_cell BK462.out 0).trans rfl; have hcz6_1 : w5.cell? ⟨gb462, 1, none⟩ = some (.int .i64 a0_1) := (blk_cell BK462.out 1).trans rfl; have hcz6_2 : w5.cell? ⟨gb462, 2, none⟩ = some (.int .i64 a0_2) := (blk_cell BK462.out 2).trans rfl; have hcz6_3 : w5.cell? ⟨gb462, 3, none⟩ = some (.int .i64 a0_3) := (blk_cell BK462.out 3).trans rfl; have hcz6_4 : w5.cell? ⟨gb462, 4, none⟩ = some (.slice A0_4 l0_4.length c0_4) := (blk_cell BK462.out 4).trans rfl; have hfz6_0 := blk_frozen BK462.out 0; have hfz6_1 := blk_frozen BK462.out 1; have hfz6_2 := blk_frozen BK462.out 2; have hfz6_3 := blk_frozen BK462.out 3; have hfz6_4 := blk_frozen BK462.out 4) | ((with_reducible refine gate_callee (f := 7) rfl ?_); refine goesL_ (some 19) rfl rfl Try.func7 (by kernel_rfl) rfl #[.agg #[.int .i64 a0_0, .int .i64 a0_1, .int .i64 a0_2, .int .i64 a0_3, .slice A0_4 l0_4.length c0_4], .int .i64 1048576] rfl (by (try simp only [List.map_toArray, List.map_cons, List.map_nil]); first | done | rfl | (simp only [List.length_drop, List.length_take]; rfl)) ?_; (with_reducible refine (laws_szAxis.calls a0_0 a0_1 a0_2 a0_3 _ _ l0_4 1048576 t463 _ ?side1 ?side2 A3.out).mono ?_); (case side1 => repeat (first | exact (Kd.C_below HR0_4.out HB.out) | (with_reducible refine Kd.C_alloc ?_ _) | (with_reducible refine Kd.C_drewN ?_ _) | (with_reducible refine Kd.C_drew ?_))); (case side2 => exact HC0_4.out); rintro e w7 ⟨rfl, hb⟩; refine ⟨_, rfl, ?_⟩; have n0_ := Aside0.mk (blk_below (g := gb462) (o := .cells #[.int .i64 a0_0, .int .i64 a0_1, .int .i64 a0_2, .int .i64 a0_3, .slice A0_4 l0_4.length c0_4] 26 (0, 0)) (by (with_reducible repeat (first | refine blk_drewN ?_ _ | refine blk_drew ?_ | refine blk_alloc ?_ _)); exact BK462.out) hb); have n1_ := Aside0.mk (below_step (by repeat (first | (with_reducible first | exact HB.out | apply below_alloc | apply pw_below_drewN | apply below_drew1 | refine below_set ?_ GE462.out) | exact HB.out)) hb); clear BK462; clear HB; have BK462 := n0_; have HB := n1_; clear n0_ n1_; (try clear hb); (try clear hb2); (try clear hk); (try clear hi)))
  go_ret
  exact ⟨by first | rfl | (simp [errW_none, errW_some] <;> rfl) | (simp [*, errW_none, errW_some] <;> rfl), by repeat (first | (with_reducible first | exact HB.out | apply below_alloc | apply pw_below_drewN | apply below_drew1 | refine below_set ?_ GE462.out) | exact HB.out)⟩
 ·rw [if_neg c4] at H
  have c4b0 : decide (t463 < 0) = false := decide_eq_false c4
  clear c4
  replace H := Option.bind_eq_some_iff.mp H
  obtain ⟨t464, A80, H⟩ := H
  replace H : (if t464 < 0 then (some true) else ((laws_toAxis.f k a0_0 a0_1 a0_2 a0_3 l0_4).bind fun bt465 => ((laws_toPoseS.f k l1).bind fun t472 => ((spec_DeviationsOf.f k bt465.1 bt465.2.1 bt465.2.2.1 bt465.2.2.2.1 bt465.2.2.2.2 t472).bind fun bt475 => ((laws_toAxis.f k a0_0 a0_1 a0_2 a0_3 l0_4).bind fun bt479 => ((laws_toPoseS.f k l1).bind fun t487 => ((impl_DeviationsOf.f k bt479.1 bt479.2.1 bt479.2.2.1 bt479.2.2.2.1 bt479.2.2.2.2 t487).bind fun bt490 => ((laws_eqInt64S.f k bt490.1 bt475.1).bind fun t494 => (if t494 = true then (laws_FnExactDeviationsOf.j0 k l1 bt475.1 bt475.2 t487 bt490.1 bt490.2 (bt490.2 != bt475.2) a0_0 a0_1 a0_2 a0_3 l0_4 bt479.1 bt479.2.1 bt479.2.2.1 bt479.2.2.2.1 bt479.2.2.2.2) else (laws_FnExactDeviationsOf.j0 k l1 bt475.1 bt475.2 t487 bt490.1 bt490.2 true a0_0 a0_1 a0_2 a0_3 l0_4 bt479.1 bt479.2.1 bt479.2.2.1 bt479.2.2.2.1 bt479.2.2.2.2)))))))))) = some r := H
  have A8 := Aside0.mk A80
  clear A80
  by_cases c9 : t464 < 0
  ·rw [if_pos c9] at H
   have c9b0 : decide (t464 < 0) = true := decide_eq_true c9
   clear c9
   obtain rfl := Option.some.inj H
   go_enter Try.func5, Try.ntmps5
   go_wp2_with (first | ((with_reducible refine gate_dst (N := 2) rfl ?_); refine box_event ?hg (N := 2) ?hd (cs := #[.int .i64 a0_0, .int .i64 a0_1, .int .i64 a0_2, .int .i64 a0_3, .slice A0_4 l0_4.length c0_4]) (t := 26) ?hr ?_; (case hd => rfl); (case hg => rfl); (case hr => first | (go_simp; done) | (go_simp; rfl)); intro gb462 hg w10 hbox hb; have n0_ := Aside0.mk (below_step (by repeat (first | (with_reducible first | exact HB.out | apply below_alloc | apply pw_below_drewN | apply below_drew1) | exact HB.out)) hb); have n1_ := Aside0.mk (hbox); have n2_ := Aside0.mk ((by rw [hg]; exact (below_size (by repeat (first | (with_reducible first | exact HB.out | apply below_alloc | apply pw_below_drewN | apply below_drew1) | exact HB.out))) : w.heap.size ≤ gb462)); have n3_ := Aside0.mk ((by rw [hg]; exact (below_size (by repeat (first | (with_reducible first | exact HB.out | apply below_alloc | apply pw_below_drewN | apply below_drew1) | exact HB.out))) : w.heap.size ≤ gb462)); clear HB; have HB := n0_; have BK462 := n1_; have GW462 := n2_; have GE462 := n3_; clear n0_ n1_ n2_ n3_; clear hb hbox hg; have hcz11_0 : w10.cell? ⟨gb462, 0, none⟩ = some (.int .i64 a0_0) := (blk_cell BK462.out 0).trans rfl; have hcz11_1 : w10.cell? ⟨gb462, 1, none⟩ = some (.int .i64 a0_1) := (blk_cell BK462.out 1).trans rfl; have hcz11_2 : w10.cell? ⟨gb462, 2, none⟩ = some (.int .i64 a0_2) := (blk_cell BK462.out 2).trans rfl; have hcz11_3 : w10.cell? ⟨gb462, 3, none⟩ = some (.int .i64 a0_3) := (blk_cell BK462.out 3).trans rfl; have hcz11_4 : w10.cell? ⟨gb462, 4, none⟩ = some (.slice A0_4 l0_4.length c0_4) := (blk_cell BK462.out 4).trans rfl; have hfz11_0 := blk_frozen BK462.out 0; have hfz11_1 := blk_frozen BK462.out 1; have hfz11_2 := blk_frozen BK462.out 2; have hfz11_3 := blk_frozen BK462.out 3; have hfz11_4 := blk_frozen BK462.out 4) | ((with_reducible refine gate_callee (f := 7) rfl ?_); refine goesL_ (some 19) rfl rfl Try.func7 (by kernel_rfl) rfl #[.agg #[.int .i64 a0_0, .int .i64 a0_1, .int .i64 a0_2, .int .i64 a0_3, .slice A0_4 l0_4.length c0_4], .int .i64 1048576] rfl (by (try simp only [List.map_toArray, List.map_cons, List.map_nil]); first | done | rfl | (simp only [List.length_drop, List.length_take]; rfl)) ?_; (with_reducible refine (laws_szAxis.calls a0_0 a0_1 a0_2 a0_3 _ _ l0_4 1048576 t463 _ ?side1 ?side2 A3.out).mono ?_); (case side1 => repeat (first | exact (Kd.C_below HR0_4.out HB.out) | (with_reducible refine Kd.C_alloc ?_ _) | (with_reducible refine Kd.C_drewN ?_ _) | (with_reducible refine Kd.C_drew ?_))); (case side2 => exact HC0_4.out); rintro e w12 ⟨rfl, hb⟩; refine ⟨_, rfl, ?_⟩; have n0_ := Aside0.mk (blk_below (g := gb462) (o := .cells #[.int .i64 a0_0, .int .i64 a0_1, .int .i64 a0_2, .int .i64 a0_3, .slice A0_4 l0_4.length c0_4] 26 (0, 0)) (by (with_reducible repeat (first | refine blk_drewN ?_ _ | refine blk_drew ?_ | refine blk_alloc ?_ _)); exact BK462.out) hb); have n1_ := Aside0.mk (below_step (by repeat (first | (with_reducible first | exact HB.out | apply below_alloc | apply pw_below_drewN | apply below_drew1 | refine below_set ?_ GE462.out) | exact HB.out)) hb); clear BK462; clear HB; have BK462 := n0_; have HB := n1_; clear n0_ n1_; (try clear hb); (try clear hb2); (try clear hk); (try clear hi)) | ((with_reducible refine gate_callee (f := 14) rfl ?_); refine goesL_ (some 24) rfl rfl Try.func14 (by kernel_rfl) rfl #[.slice A1 l1.length c1, .int .i64 t463] rfl (by (try simp only [List.map_toArray, List.map_cons, List.map_nil]); first | done | rfl | (simp only [List.length_drop, List.length_take]; rfl)) ?_; (with_reducible refine (laws_szPoseS.calls _ _ l1 t463 t464 _ ?side1 ?side2 A8.out).mono ?_); (case side1 => repeat (first | exact (Kd.C_below HR1.out HB.out) | (with_reducible refine Kd.C_alloc ?_ _) | (with_reducible refine Kd.C_drewN ?_ _) | (with_reducible refine Kd.C_drew ?_))); (case side2 => exact HC1.out); rintro e w' ⟨rfl, ⟨nd, rfl⟩⟩; refine ⟨_, rfl, ?_⟩))
   go_ret
   exact ⟨by first | rfl | (simp [errW_none, errW_some] <;> rfl) | (simp [*, errW_none, errW_some] <;> rfl), by repeat (first | (with_reducible first | exact HB.out | apply below_alloc | apply pw_below_drewN | apply below_drew1 | refine below_set ?_ GE462.out) | exact HB.out)⟩
  ·rw [if_neg c9] at H
   have c9b0 : decide (t464 < 0) = false := decide_eq_false c9
   clear c9
   replace H := Option.bind_eq_some_iff.mp H
   obtain ⟨⟨t465, t466, t467, t468, t469⟩, A130, H⟩ := H
   replace H : ((laws_toPoseS.f k l1).bind fun t472 => ((spec_DeviationsOf.f k t465 t466 t467 t468 t469 t472).bind fun bt475 => ((laws_toAxis.f k a0_0 a0_1 a0_2 a0_3 l0_4).bind fun bt479 => ((laws_toPoseS.f k l1).bind fun t487 => ((impl_DeviationsOf.f k bt479.1 bt479.2.1 bt479.2.2.1 bt479.2.2.2.1 bt479.2.2.2.2 t487).bind fun bt490 => ((laws_eqInt64S.f k bt490.1 bt475.1).bind fun t494 => (if t494 = true then (laws_FnExactDeviationsOf.j0 k l1 bt475.1 bt475.2 t487 bt490.1 bt490.2 (bt490.2 != bt475.2) a0_0 a0_1 a0_2 a0_3 l0_4 bt479.1 bt479.2.1 bt479.2.2.1 bt479.2.2.2.1 bt479.2.2.2.2) else (laws_FnExactDeviationsOf.j0 k l1 bt475.1 bt475.2 t487 bt490.1 bt490.2 true a0_0 a0_1 a0_2 a0_3 l0_4 bt479.1 bt479.2.1 bt479.2.2.1 bt479.2.2.2.1 bt479.2.2.2.2)))))))) = some r := H
   have A13 := Aside0.mk A130
   clear A130
   replace H := Option.bind_eq_some_iff.mp H
   obtain ⟨t472, A140, H⟩ := H
   replace H : ((spec_DeviationsOf.f k t465 t466 t467 t468 t469 t472).bind fun bt475 => ((laws_toAxis.f k a0_0 a0_1 a0_2 a0_3 l0_4).bind fun bt479 => ((laws_toPoseS.f k l1).bind fun t487 => ((impl_DeviationsOf.f k bt479.1 bt479.2.1 bt479.2.2.1 bt479.2.2.2.1 bt479.2.2.2.2 t487).bind fun bt490 => ((laws_eqInt64S.f k bt490.1 bt475.1).bind fun t494 => (if t494 = true then (laws_FnExactDeviationsOf.j0 k l1 bt475.1 bt475.2 t487 bt490.1 bt490.2 (bt490.2 != bt475.2) a0_0 a0_1 a0_2 a0_3 l0_4 bt479.1 bt479.2.1 bt479.2.2.1 bt479.2.2.2.1 bt479.2.2.2.2) else (laws_FnExactDeviationsOf.j0 k l1 bt475.1 bt475.2 t487 bt490.1 bt490.2 true a0_0 a0_1 a0_2 a0_3 l0_4 bt479.1 bt479.2.1 bt479.2.2.1 bt479.2.2.2.1 bt479.2.2.2.2))))))) = some r := H
   have A14 := Aside0.mk A140
   clear A140
   replace H := Option.bind_eq_some_iff.mp H
   obtain ⟨⟨t475, t478⟩, A150, H⟩ := H
   replace H : ((laws_toAxis.f k a0_0 a0_1 a0_2 a0_3 l0_4).bind fun bt479 => ((laws_toPoseS.f k l1).bind fun t487 => ((impl_DeviationsOf.f k bt479.1 bt479.2.1 bt479.2.2.1 bt479.2.2.2.1 bt479.2.2.2.2 t487).bind fun bt490 => ((laws_eqInt64S.f k bt490.1 t475).bind fun t494 => (if t494 = true then (laws_FnExactDeviationsOf.j0 k l1 t475 t478 t487 bt490.1 bt490.2 (bt490.2 != t478) a0_0 a0_1 a0_2 a0_3 l0_4 bt479.1 bt479.2.1 bt479.2.2.1 bt479.2.2.2.1 bt479.2.2.2.2) else (laws_FnExactDeviationsOf.j0 k l1 t475 t478 t487 bt490.1 bt490.2 true a0_0 a0_1 a0_2 a0_3 l0_4 bt479.1 bt479.2.1 bt479.2.2.1 bt479.2.2.2.1 bt479.2.2.2.2)))))) = some r := H
   have A15 := Aside0.mk A150
   clear A150
   replace H := Option.bind_eq_some_iff.mp H
   obtain ⟨⟨t479, t480, t481, t482, t483⟩, A160, H⟩ := H
   replace H : ((laws_toPoseS.f k l1).bind fun t487 => ((impl_DeviationsOf.f k t479 t480 t481 t482 t483 t487).bind fun bt490 => ((laws_eqInt64S.f k bt490.1 t475).bind fun t494 => (if t494 = true then (laws_FnExactDeviationsOf.j0 k l1 t475 t478 t487 bt490.1 bt490.2 (bt490.2 != t478) a0_0 a0_1 a0_2 a0_3 l0_4 t479 t480 t481 t482 t483) else (laws_FnExactDeviationsOf.j0 k l1 t475 t478 t487 bt490.1 bt490.2 true a0_0 a0_1 a0_2 a0_3 l0_4 t479 t480 t481 t482 t483))))) = some r := H
   have A16 := Aside0.mk A160
   clear A160
   replace H := Option.bind_eq_some_iff.mp H
   obtain ⟨t487, A170, H⟩ := H
   replace H : ((impl_DeviationsOf.f k t479 t480 t481 t482 t483 t487).bind fun bt490 => ((laws_eqInt64S.f k bt490.1 t475).bind fun t494 => (if t494 = true then (laws_FnExactDeviationsOf.j0 k l1 t475 t478 t487 bt490.1 bt490.2 (bt490.2 != t478) a0_0 a0_1 a0_2 a0_3 l0_4 t479 t480 t481 t482 t483) else (laws_FnExactDeviationsOf.j0 k l1 t475 t478 t487 bt490.1 bt490.2 true a0_0 a0_1 a0_2 a0_3 l0_4 t479 t480 t481 t482 t483)))) = some r := H
   have A17 := Aside0.mk A170
   clear A170
   replace H := Option.bind_eq_some_iff.mp H
   obtain ⟨⟨t490, t493⟩, A180, H⟩ := H
   replace H : ((laws_eqInt64S.f k t490 t475).bind fun t494 => (if t494 = true then (laws_FnExactDeviationsOf.j0 k l1 t475 t478 t487 t490 t493 (t493 != t478) a0_0 a0_1 a0_2 a0_3 l0_4 t479 t480 t481 t482 t483) else (laws_FnExactDeviationsOf.j0 k l1 t475 t478 t487 t490 t493 true a0_0 a0_1 a0_2 a0_3 l0_4 t479 t480 t481 t482 t483))) = some r := H
   have A18 := Aside0.mk A180
   clear A180
   have HC19 := Aside0.mk H
   clear H
   go_enter Try.func5, Try.ntmps5
   go_upto_region 12 with (first | ((with_reducible refine gate_dst (N := 2) rfl ?_); refine box_event ?hg (N := 2) ?hd (cs := #[.int .i64 a0_0, .int .i64 a0_1, .int .i64 a0_2, .int .i64 a0_3, .slice A0_4 l0_4.length c0_4]) (t := 26) ?hr ?_; (case hd => rfl); (case hg => rfl); (case hr => first | (go_simp; done) | (go_simp; rfl)); intro gb462 hg w20 hbox hb; have n0_ := Aside0.mk (below_step (by repeat (first | (with_reducible first | exact HB.out | apply below_alloc | apply pw_below_drewN | apply below_drew1) | exact HB.out)) hb); have n1_ := Aside0.mk (hbox); have n2_ := Aside0.mk ((by rw [hg]; exact (below_size (by repeat (first | (with_reducible first | exact HB.out | apply below_alloc | apply pw_below_drewN | apply below_drew1) | exact HB.out))) : w.heap.size ≤ gb462)); have n3_ := Aside0.mk ((by rw [hg]; exact (below_size (by repeat (first | (with_reducible first | exact HB.out | apply below_alloc | apply pw_below_drewN | apply below_drew1) | exact HB.out))) : w.heap.size ≤ gb462)); clear HB; have HB := n0_; have BK462 := n1_; have GW462 := n2_; have GE462 := n3_; clear n0_ n1_ n2_ n3_; clear hb hbox hg; have hcz21_0 : w20.cell? ⟨gb462, 0, none⟩ = some (.int .i64 a0_0) := (blk_cell BK462.out 0).trans rfl; have hcz21_1 : w20.cell? ⟨gb462, 1, none⟩ = some (.int .i64 a0_1) := (blk_cell BK462.out 1).trans rfl; have hcz21_2 : w20.cell? ⟨gb462, 2, none⟩ = some (.int .i64 a0_2) := (blk_cell BK462.out 2).trans rfl; have hcz21_3 : w20.cell? ⟨gb462, 3, none⟩ = some (.int .i64 a0_3) := (blk_cell BK462.out 3).trans rfl; have hcz21_4 : w20.cell? ⟨gb462, 4, none⟩ = some (.slice A0_4 l0_4.length c0_4) := (blk_cell BK462.out 4).trans rfl; have hfz21_0 := blk_frozen BK462.out 0; have hfz21_1 := blk_frozen BK462.out 1; have hfz21_2 := blk_frozen BK462.out 2; have hfz21_3 := blk_frozen BK462.out 3; have hfz21_4 := blk_frozen BK462.out 4) | ((with_reducible refine gate_callee (f := 7) rfl ?_); refine goesL_ (some 19) rfl rfl Try.func7 (by kernel_rfl) rfl #[.agg #[.int .i64 a0_0, .int .i64 a0_1, .int .i64 a0_2, .int .i64 a0_3, .slice A0_4 l0_4.length c0_4], .int .i64 1048576] rfl (by (try simp only [List.map_toArray, List.map_cons, List.map_nil]); first | done | rfl | (simp only [List.length_drop, List.length_take]; rfl)) ?_; (with_reducible refine (laws_szAxis.calls a0_0 a0_1 a0_2 a0_3 _ _ l0_4 1048576 t463 _ ?side1 ?side2 A3.out).mono ?_); (case side1 => repeat (first | exact (Kd.C_below HR0_4.out HB.out) | (with_reducible refine Kd.C_alloc ?_ _) | (with_reducible refine Kd.C_drewN ?_ _) | (with_reducible refine Kd.C_drew ?_))); (case side2 => exact HC0_4.out); rintro e w22 ⟨rfl, hb⟩; refine ⟨_, rfl, ?_⟩; have n0_ := Aside0.mk (blk_below (g := gb462) (o := .cells #[.int .i64 a0_0, .int .i64 a0_1, .int .i64 a0_2, .int .i64 a0_3, .slice A0_4 l0_4.length c0_4] 26 (0, 0)) (by (with_reducible repeat (first | refine blk_drewN ?_ _ | refine blk_drew ?_ | refine blk_alloc ?_ _)); exact BK462.out) hb); have n1_ := Aside0.mk (below_step (by repeat (first | (with_reducible first | exact HB.out | apply below_alloc | apply pw_below_drewN | apply below_drew1 | refine below_set ?_ GE462.out) | exact HB.out)) hb); clear BK462; clear HB; have BK462 := n0_; have HB := n1_; clear n0_ n1_; (try clear hb); (try clear hb2); (try clear hk); (try clear hi)) | ((with_reducible refine gate_callee (f := 14) rfl ?_); refine goesL_ (some 24) rfl rfl Try.func14 (by kernel_rfl) rfl #[.slice A1 l1.length c1, .int .i64 t463] rfl (by (try simp only [List.map_toArray, List.map_cons, List.map_nil]); first | done | rfl | (simp only [List.length_drop, List.length_take]; rfl)) ?_; (with_reducible refine (laws_szPoseS.calls _ _ l1 t463 t464 _ ?side1 ?side2 A8.out).mono ?_); (case side1 => repeat (first | exact (Kd.C_below HR1.out HB.out) | (with_reducible refine Kd.C_alloc ?_ _) | (with_reducible refine Kd.C_drewN ?_ _) | (with_reducible refine Kd.C_drew ?_))); (case side2 => exact HC1.out); rintro e w' ⟨rfl, ⟨nd, rfl⟩⟩; refine ⟨_, rfl, ?_⟩; (try (rw [drewN_self w22]; generalize hq_ : World.drewN w22 _ = w22; have n0_ : Aside0 (w22.heap[gb462]? = some (.cells #[.int .i64 a0_0, .int .i64 a0_1, .int .i64 a0_2, .int .i64 a0_3, .slice A0_4 l0_4.length c0_4] 26 (0, 0))) := ⟨by rw [← hq_]; exact (by (with_reducible repeat (first | refine blk_drewN ?_ _ | refine blk_drew ?_ | refine blk_alloc ?_ _)); exact BK462.out)⟩; have n1_ : Aside0 (Below w.heap.size w w22) := ⟨by rw [← hq_]; exact (by repeat (first | (with_reducible first | exact HB.out | apply below_alloc | apply pw_below_drewN | apply below_drew1 | refine below_set ?_ GE462.out) | exact HB.out))⟩; clear BK462 HB hq_; have BK462 := n0_; have HB := n1_; clear n0_ n1_)); have hcz23_0 : w22.cell? ⟨gb462, 0, none⟩ = some (.int .i64 a0_0) := (blk_cell BK462.out 0).trans rfl; have hcz23_1 : w22.cell? ⟨gb462, 1, none⟩ = some (.int .i64 a0_1) := (blk_cell BK462.out 1).trans rfl; have hcz23_2 : w22.cell? ⟨gb462, 2, none⟩ = some (.int .i64 a0_2) := (blk_cell BK462.out 2).trans rfl; have hcz23_3 : w22.cell? ⟨gb462, 3, none⟩ = some (.int .i64 a0_3) := (blk_cell BK462.out 3).trans rfl; have hcz23_4 : w22.cell? ⟨gb462, 4, none⟩ = some (.slice A0_4 l0_4.length c0_4) := (blk_cell BK462.out 4).trans rfl; have hfz23_0 := blk_frozen BK462.out 0; have hfz23_1 := blk_frozen BK462.out 1; have hfz23_2 := blk_frozen BK462.out 2; have hfz23_3 := blk_frozen BK462.out 3; have hfz23_4 := blk_frozen BK462.out 4) | ((with_reducible refine gate_callee (f := 9) rfl ?_); refine goesL_ (some 29) rfl rfl Try.func9 (by kernel_rfl) rfl #[.agg #[.int .i64 a0_0, .int .i64 a0_1, .int .i64 a0_2, .int .i64 a0_3, .slice A0_4 l0_4.length c0_4]] rfl (by (try simp only [List.map_toArray, List.map_cons, List.map_nil]); first | done | rfl | (simp only [List.length_drop, List.length_take]; rfl)) ?_; (with_reducible refine (laws_toAxis.calls k a0_0 a0_1 a0_2 a0_3 _ _ l0_4 t465 t466 t467 t468 t469 _ ?side1 ?side2 A13.out).mono ?_); (case side1 => repeat (first | exact (Kd.C_below HR0_4.out HB.out) | (with_reducible refine Kd.C_alloc ?_ _) | (with_reducible refine Kd.C_drewN ?_ _) | (with_reducible refine Kd.C_drew ?_))); (case side2 => exact HC0_4.out); rintro e w24 ⟨v470, rfl, ho0, hb⟩; refine ⟨_, rfl, ?_⟩; have n0_ := Aside0.mk (Kd.R_lower ho0 (below_size (by repeat (first | (with_reducible first | exact HB.out | apply below_alloc | apply pw_below_drewN | apply below_drew1 | refine below_set ?_ GE462.out) | exact HB.out)))); have n1_ := Aside0.mk (blk_below (g := gb462) (o := .cells #[.int .i64 a0_0, .int .i64 a0_1, .int .i64 a0_2, .int .i64 a0_3, .slice A0_4 l0_4.length c0_4] 26 (0, 0)) (by (with_reducible repeat (first | refine blk_drewN ?_ _ | refine blk_drew ?_ | refine blk_alloc ?_ _)); exact BK462.out) hb); have n2_ := Aside0.mk (below_step (by repeat (first | (with_reducible first | exact HB.out | apply below_alloc | apply pw_below_drewN | apply below_drew1 | refine below_set ?_ GE462.out) | exact HB.out)) hb); clear BK462; clear HB; have HO471 := n0_; have BK462 := n1_; have HB := n2_; clear n0_ n1_ n2_; (try clear hb); (try clear hb2); (try clear hk); (try clear hi); (try clear ho0)) | ((with_reducible refine gate_callee (f := 16) rfl ?_); refine goesL_ (some 31) rfl rfl Try.func16 (by kernel_rfl) rfl #[.slice A1 l1.length c1] rfl (by (try simp only [List.map_toArray, List.map_cons, List.map_nil]); first | done | rfl | (simp only [List.length_drop, List.length_take]; rfl)) ?_; (with_reducible refine (laws_toPoseS.calls k _ _ l1 t472 _ ?side1 ?side2 A14.out).mono ?_); (case side1 => repeat (first | exact (Kd.C_below HR1.out HB.out) | (with_reducible refine Kd.C_alloc ?_ _) | (with_reducible refine Kd.C_drewN ?_ _) | (with_reducible refine Kd.C_drew ?_))); (case side2 => exact HC1.out); rintro e w25 ⟨v473, rfl, ho0, hb⟩; refine ⟨_, rfl, ?_⟩; have n0_ := Aside0.mk (Kd.R_below (by (with_reducible repeat (first | apply Kd.R_alloc | apply Kd.R_drewN | apply Kd.R_drew)); exact HO471.out) hb); have n1_ := Aside0.mk (Kd.R_lower ho0 (below_size (by repeat (first | (with_reducible first | exact HB.out | apply below_alloc | apply pw_below_drewN | apply below_drew1 | refine below_set ?_ GE462.out) | exact HB.out)))); have n2_ := Aside0.mk (blk_below (g := gb462) (o := .cells #[.int .i64 a0_0, .int .i64 a0_1, .int .i64 a0_2, .int .i64 a0_3, .slice A0_4 l0_4.length c0_4] 26 (0, 0)) (by (with_reducible repeat (first | refine blk_drewN ?_ _ | refine blk_drew ?_ | refine blk_alloc ?_ _)); exact BK462.out) hb); have n3_ := Aside0.mk (below_step (by repeat (first | (with_reducible first | exact HB.out | apply below_alloc | apply pw_below_drewN | apply below_drew1 | refine below_set ?_ GE462.out) | exact HB.out)) hb); clear HO471; clear BK462; clear HB; have HO471 := n0_; have HO474 := n1_; have BK462 := n2_; have HB := n3_; clear n0_ n1_ n2_ n3_; (try clear hb); (try clear hb2); (try clear hk); (try clear hi); (try clear ho0); obtain ⟨Ao26, co26, eo26⟩ := Kd.R_slice HO471.out; subst eo26; obtain ⟨Ao27, co27, eo27⟩ := Kd.R_slice HO474.out; subst eo27) | ((with_reducible refine gate_callee (f := 20) rfl ?_); refine goesL_ (some 32) rfl rfl Try.func20 (by kernel_rfl) rfl #[.agg #[.int .i64 t465, .int .i64 t466, .int .i64 t467, .int .i64 t468, .slice Ao26 t469.length co26], .slice Ao27 t472.length co27] rfl (by (try simp only [List.map_toArray, List.map_cons, List.map_nil]); first | done | rfl | (simp only [List.length_drop, List.length_take]; rfl)) ?_; (with_reducible refine (spec_DeviationsOf.calls k t465 t466 t467 t468 _ _ t469 _ _ t472 t475 t478 _ ?side1 ?side2 ?side3 ?side4 A15.out).mono ?_); (case side1 => repeat (first | exact (Kd.R_reads' HO471.out).2.2 | (with_reducible refine Kd.C_alloc ?_ _) | (with_reducible refine Kd.C_drewN ?_ _) | (with_reducible refine Kd.C_drew ?_))); (case side2 => exact (Kd.R_reads' HO471.out).2.1); (case side3 => repeat (first | exact (Kd.R_reads' HO474.out).2.2 | (with_reducible refine Kd.C_alloc ?_ _) | (with_reducible refine Kd.C_drewN ?_ _) | (with_reducible refine Kd.C_drew ?_))); (case side4 => exact (Kd.R_reads' HO474.out).2.1); rintro e w28 ⟨v476, rfl, ho0, hb⟩; refine ⟨_, rfl, ?_⟩; have n0_ := Aside0.mk (Kd.R_below (by (with_reducible repeat (first | apply Kd.R_alloc | apply Kd.R_drewN | apply Kd.R_drew)); exact HO471.out) hb); have n1_ := Aside0.mk (Kd.R_below (by (with_reducible repeat (first | apply Kd.R_alloc | apply Kd.R_drewN | apply Kd.R_drew)); exact HO474.out) hb); have n2_ := Aside0.mk (Kd.R_lower ho0 (below_size (by repeat (first | (with_reducible first | exact HB.out | apply below_alloc | apply pw_below_drewN | apply below_drew1 | refine below_set ?_ GE462.out) | exact HB.out)))); have n3_ := Aside0.mk (blk_below (g := gb462) (o := .cells #[.int .i64 a0_0, .int .i64 a0_1, .int .i64 a0_2, .int .i64 a0_3, .slice A0_4 l0_4.length c0_4] 26 (0, 0)) (by (with_reducible repeat (first | refine blk_drewN ?_ _ | refine blk_drew ?_ | refine blk_alloc ?_ _)); exact BK462.out) hb); have n4_ := Aside0.mk (below_step (by repeat (first | (with_reducible first | exact HB.out | apply below_alloc | apply pw_below_drewN | apply below_drew1 | refine below_set ?_ GE462.out) | exact HB.out)) hb); clear HO471; clear HO474; clear BK462; clear HB; have HO471 := n0_; have HO474 := n1_; have HO477 := n2_; have BK462 := n3_; have HB := n4_; clear n0_ n1_ n2_ n3_ n4_; (try clear hb); (try clear hb2); (try clear hk); (try clear hi); (try clear ho0); have hcz29_0 : w28.cell? ⟨gb462, 0, none⟩ = some (.int .i64 a0_0) := (blk_cell BK462.out 0).trans rfl; have hcz29_1 : w28.cell? ⟨gb462, 1, none⟩ = some (.int .i64 a0_1) := (blk_cell BK462.out 1).trans rfl; have hcz29_2 : w28.cell? ⟨gb462, 2, none⟩ = some (.int .i64 a0_2) := (blk_cell BK462.out 2).trans rfl; have hcz29_3 : w28.cell? ⟨gb462, 3, none⟩ = some (.int .i64 a0_3) := (blk_cell BK462.out 3).trans rfl; have hcz29_4 : w28.cell? ⟨gb462, 4, none⟩ = some (.slice A0_4 l0_4.length c0_4) := (blk_cell BK462.out 4).trans rfl; have hfz29_0 := blk_frozen BK462.out 0; have hfz29_1 := blk_frozen BK462.out 1; have hfz29_2 := blk_frozen BK462.out 2; have hfz29_3 := blk_frozen BK462.out 3; have hfz29_4 := blk_frozen BK462.out 4) | ((with_reducible refine gate_callee (f := 9) rfl ?_); refine goesL_ (some 36) rfl rfl Try.func9 (by kernel_rfl) rfl #[.agg #[.int .i64 a0_0, .int .i64 a0_1, .int .i64 a0_2, .int .i64 a0_3, .slice A0_4 l0_4.length c0_4]] rfl (by (try simp only [List.map_toArray, List.map_cons, List.map_nil]); first | done | rfl | (simp only [List.length_drop, List.length_take]; rfl)) ?_; (with_reducible refine (laws_toAxis.calls k a0_0 a0_1 a0_2 a0_3 _ _ l0_4 t479 t480 t481 t482 t483 _ ?side1 ?side2 A16.out).mono ?_); (case side1 => repeat (first | exact (Kd.C_below HR0_4.out HB.out) | (with_reducible refine Kd.C_alloc ?_ _) | (with_reducible refine Kd.C_drewN ?_ _) | (with_reducible refine Kd.C_drew ?_))); (case side2 => exact HC0_4.out); rintro e w30 ⟨v484, rfl, ho0, hb⟩; refine ⟨_, rfl, ?_⟩; have n0_ := Aside0.mk (Kd.R_elder' (by (with_reducible repeat (first | apply Kd.R_alloc | apply Kd.R_drewN | apply Kd.R_drew)); exact HO471.out) (Kd.R_base ho0) hb); have n1_ := Aside0.mk (Kd.R_below (by (with_reducible repeat (first | apply Kd.R_alloc | apply Kd.R_drewN | apply Kd.R_drew)); exact HO474.out) hb); have n2_ := Aside0.mk (Kd.R_below (by (with_reducible repeat (first | apply Kd.R_alloc | apply Kd.R_drewN | apply Kd.R_drew)); exact HO477.out) hb); have n3_ := Aside0.mk (Kd.R_lower (Kd.R_new' ho0 (Kd.R_lt (by (with_reducible repeat (first | apply Kd.R_alloc | apply Kd.R_drewN | apply Kd.R_drew)); exact HO471.out))) (below_size (by repeat (first | (with_reducible first | exact HB.out | apply below_alloc | apply pw_below_drewN | apply below_drew1 | refine below_set ?_ GE462.out) | exact HB.out)))); have n4_ := Aside0.mk (blk_below (g := gb462) (o := .cells #[.int .i64 a0_0, .int .i64 a0_1, .int .i64 a0_2, .int .i64 a0_3, .slice A0_4 l0_4.length c0_4] 26 (0, 0)) (by (with_reducible repeat (first | refine blk_drewN ?_ _ | refine blk_drew ?_ | refine blk_alloc ?_ _)); exact BK462.out) hb); have n5_ := Aside0.mk (below_step (by repeat (first | (with_reducible first | exact HB.out | apply below_alloc | apply pw_below_drewN | apply below_drew1 | refine below_set ?_ GE462.out) | exact HB.out)) hb); clear HO471; clear HO474; clear HO477; clear BK462; clear HB; have HO471 := n0_; have HO474 := n1_; have HO477 := n2_; have HO485 := n3_; have BK462 := n4_; have HB := n5_; clear n0_ n1_ n2_ n3_ n4_ n5_; (try clear hb); (try clear hb2); (try clear hk); (try clear hi); (try clear ho0)) | ((with_reducible refine gate_dst (N := 8) rfl ?_); refine box_event ?hg (N := 8) ?hd (cs := #[.int .i64 0, .int .i64 0, .int .i64 0, .int .i64 0, .slice none 0 0]) (t := 31) ?hr ?_; (case hd => rfl); (case hg => rfl); (case hr => first | (go_simp; done) | (go_simp; rfl)); intro gb486 hg w31 hbox hb; have n0_ := Aside0.mk (Kd.R_below (by (with_reducible repeat (first | apply Kd.R_alloc | apply Kd.R_drewN | apply Kd.R_drew)); exact HO471.out) hb); have n1_ := Aside0.mk (Kd.R_below (by (with_reducible repeat (first | apply Kd.R_alloc | apply Kd.R_drewN | apply Kd.R_drew)); exact HO474.out) hb); have n2_ := Aside0.mk (Kd.R_below (by (with_reducible repeat (first | apply Kd.R_alloc | apply Kd.R_drewN | apply Kd.R_drew)); exact HO477.out) hb); have n3_ := Aside0.mk (Kd.R_below (by (with_reducible repeat (first | apply Kd.R_alloc | apply Kd.R_drewN | apply Kd.R_drew)); exact HO485.out) hb); have n4_ := Aside0.mk (blk_below (g := gb462) (o := .cells #[.int .i64 a0_0, .int .i64 a0_1, .int .i64 a0_2, .int .i64 a0_3, .slice A0_4 l0_4.length c0_4] 26 (0, 0)) (by (with_reducible repeat (first | refine blk_drewN ?_ _ | refine blk_drew ?_ | refine blk_alloc ?_ _)); exact BK462.out) hb); have n5_ := Aside0.mk (below_step (by repeat (first | (with_reducible first | exact HB.out | apply below_alloc | apply pw_below_drewN | apply below_drew1 | refine below_set ?_ GE462.out) | exact HB.out)) hb); have n6_ := Aside0.mk (hbox); have n7_ := Aside0.mk ((by rw [hg]; exact (below_size (by repeat (first | (with_reducible first | exact HB.out | apply below_alloc | apply pw_below_drewN | apply below_drew1 | refine below_set ?_ GE462.out) | exact HB.out))) : w.heap.size ≤ gb486)); have n8_ := Aside0.mk ((by rw [hg]; exact (below_size (by repeat (first | (with_reducible first | exact HB.out | apply below_alloc | apply pw_below_drewN | apply below_drew1 | refine below_set ?_ GE462.out) | exact HB.out))) : w.heap.size ≤ gb486)); have n9_ := Aside0.mk ((by rw [hg]; exact Nat.ne_of_lt (blk_lt (g := gb462) (o := .cells #[.int .i64 a0_0, .int .i64 a0_1, .int .i64 a0_2, .int .i64 a0_3, .slice A0_4 l0_4.length c0_4] 26 (0, 0)) (by (with_reducible repeat (first | refine blk_drewN ?_ _ | refine blk_drew ?_ | refine blk_alloc ?_ _)); exact BK462.out)) : gb462 ≠ gb486)); have n10_ := Aside0.mk ((by rw [hg]; exact Nat.ne_of_gt (blk_lt (g := gb462) (o := .cells #[.int .i64 a0_0, .int .i64 a0_1, .int .i64 a0_2, .int .i64 a0_3, .slice A0_4 l0_4.length c0_4] 26 (0, 0)) (by (with_reducible repeat (first | refine blk_drewN ?_ _ | refine blk_drew ?_ | refine blk_alloc ?_ _)); exact BK462.out)) : gb486 ≠ gb462)); clear HO471; clear HO474; clear HO477; clear HO485; clear BK462; clear HB; have HO471 := n0_; have HO474 := n1_; have HO477 := n2_; have HO485 := n3_; have BK462 := n4_; have HB := n5_; have BK486 := n6_; have GW486 := n7_; have GE486 := n8_; have NB462_486 := n9_; have NB486_462 := n10_; clear n0_ n1_ n2_ n3_ n4_ n5_ n6_ n7_ n8_ n9_ n10_; clear hb hbox hg; have hnb32 := NB486_462.out; have hnc32 := NB462_486.out; have hcz33_0 : w31.cell? ⟨gb486, 0, none⟩ = some (.int .i64 0) := (blk_cell BK486.out 0).trans rfl; have hcz33_1 : w31.cell? ⟨gb486, 1, none⟩ = some (.int .i64 0) := (blk_cell BK486.out 1).trans rfl; have hcz33_2 : w31.cell? ⟨gb486, 2, none⟩ = some (.int .i64 0) := (blk_cell BK486.out 2).trans rfl; have hcz33_3 : w31.cell? ⟨gb486, 3, none⟩ = some (.int .i64 0) := (blk_cell BK486.out 3).trans rfl; have hcz33_4 : w31.cell? ⟨gb486, 4, none⟩ = some (.slice none 0 0) := (blk_cell BK486.out 4).trans rfl; have hfz33_0 := blk_frozen BK486.out 0; have hfz33_1 := blk_frozen BK486.out 1; have hfz33_2 := blk_frozen BK486.out 2; have hfz33_3 := blk_frozen BK486.out 3; have hfz33_4 := blk_frozen BK486.out 4; obtain ⟨Ao34, co34, eo34⟩ := Kd.R_slice HO485.out; subst eo34) | ((with_reducible refine gate_callee (f := 16) rfl ?_); refine goesL_ (some 38) rfl rfl Try.func16 (by kernel_rfl) rfl #[.slice A1 l1.length c1] rfl (by (try simp only [List.map_toArray, List.map_cons, List.map_nil]); first | done | rfl | (simp only [List.length_drop, List.length_take]; rfl)) ?_; (with_reducible refine (laws_toPoseS.calls k _ _ l1 t487 _ ?side1 ?side2 A17.out).mono ?_); (case side1 => exact Kd.C_below HR1.out (by repeat (first | (with_reducible first | exact HB.out | apply below_alloc | apply pw_below_drewN | apply below_drew1 | refine below_set ?_ GE462.out | refine below_set ?_ GE486.out) | exact HB.out))); (case side2 => exact HC1.out); rintro e w35 ⟨v488, rfl, ho0, hb⟩; refine ⟨_, rfl, ?_⟩; have n0_ := Aside0.mk (Kd.R_below (by (with_reducible repeat (first | apply Kd.R_alloc | apply Kd.R_drewN | apply Kd.R_drew)); exact (Kd.R_mono (Kd.R_far (p := ⟨gb486, 4, none⟩) (Kd.R_far (p := ⟨gb486, 3, none⟩) (Kd.R_far (p := ⟨gb486, 2, none⟩) (Kd.R_far (p := ⟨gb486, 1, none⟩) (Kd.R_far (p := ⟨gb486, 0, none⟩) (Kd.R_types HO471.out BK486.out (by decide)) (fun _ hk => hk.2) (.int .i64 t479)) (fun _ hk => hk.2) (.int .i64 t480)) (fun _ hk => hk.2) (.int .i64 t481)) (fun _ hk => hk.2) (.int .i64 t482)) (fun _ hk => hk.2) (.slice Ao34 t483.length co34)) (fun _ h_ => h_.1))) hb); have n1_ := Aside0.mk (Kd.R_elder' (by (with_reducible repeat (first | apply Kd.R_alloc | apply Kd.R_drewN | apply Kd.R_drew)); exact (Kd.R_mono (Kd.R_far (p := ⟨gb486, 4, none⟩) (Kd.R_far (p := ⟨gb486, 3, none⟩) (Kd.R_far (p := ⟨gb486, 2, none⟩) (Kd.R_far (p := ⟨gb486, 1, none⟩) (Kd.R_far (p := ⟨gb486, 0, none⟩) (Kd.R_types HO474.out BK486.out (by decide)) (fun _ hk => hk.2) (.int .i64 t479)) (fun _ hk => hk.2) (.int .i64 t480)) (fun _ hk => hk.2) (.int .i64 t481)) (fun _ hk => hk.2) (.int .i64 t482)) (fun _ hk => hk.2) (.slice Ao34 t483.length co34)) (fun _ h_ => h_.1))) (Kd.R_base ho0) hb); have n2_ := Aside0.mk (Kd.R_below (by (with_reducible repeat (first | apply Kd.R_alloc | apply Kd.R_drewN | apply Kd.R_drew)); exact (Kd.R_mono (Kd.R_far (p := ⟨gb486, 4, none⟩) (Kd.R_far (p := ⟨gb486, 3, none⟩) (Kd.R_far (p := ⟨gb486, 2, none⟩) (Kd.R_far (p := ⟨gb486, 1, none⟩) (Kd.R_far (p := ⟨gb486, 0, none⟩) (Kd.R_types HO477.out BK486.out (by decide)) (fun _ hk => hk.2) (.int .i64 t479)) (fun _ hk => hk.2) (.int .i64 t480)) (fun _ hk => hk.2) (.int .i64 t481)) (fun _ hk => hk.2) (.int .i64 t482)) (fun _ hk => hk.2) (.slice Ao34 t483.length co34)) (fun _ h_ => h_.1))) hb); have n3_ := Aside0.mk (Kd.R_below (by (with_reducible repeat (first | apply Kd.R_alloc | apply Kd.R_drewN | apply Kd.R_drew)); exact (Kd.R_mono (Kd.R_far (p := ⟨gb486, 4, none⟩) (Kd.R_far (p := ⟨gb486, 3, none⟩) (Kd.R_far (p := ⟨gb486, 2, none⟩) (Kd.R_far (p := ⟨gb486, 1, none⟩) (Kd.R_far (p := ⟨gb486, 0, none⟩) (Kd.R_types HO485.out BK486.out (by decide)) (fun _ hk => hk.2) (.int .i64 t479)) (fun _ hk => hk.2) (.int .i64 t480)) (fun _ hk => hk.2) (.int .i64 t481)) (fun _ hk => hk.2) (.int .i64 t482)) (fun _ hk => hk.2) (.slice Ao34 t483.length co34)) (fun _ h_ => h_.1))) hb); have n4_ := Aside0.mk (Kd.R_lower (Kd.R_new' ho0 (Kd.R_lt (by (with_reducible repeat (first | apply Kd.R_alloc | apply Kd.R_drewN | apply Kd.R_drew)); exact (Kd.R_mono (Kd.R_far (p := ⟨gb486, 4, none⟩) (Kd.R_far (p := ⟨gb486, 3, none⟩) (Kd.R_far (p := ⟨gb486, 2, none⟩) (Kd.R_far (p := ⟨gb486, 1, none⟩) (Kd.R_far (p := ⟨gb486, 0, none⟩) (Kd.R_types HO474.out BK486.out (by decide)) (fun _ hk => hk.2) (.int .i64 t479)) (fun _ hk => hk.2) (.int .i64 t480)) (fun _ hk => hk.2) (.int .i64 t481)) (fun _ hk => hk.2) (.int .i64 t482)) (fun _ hk => hk.2) (.slice Ao34 t483.length co34)) (fun _ h_ => h_.1))))) (below_size (by repeat (first | (with_reducible first | exact HB.out | apply below_alloc | apply pw_below_drewN | apply below_drew1 | refine below_set ?_ GE462.out | refine below_set ?_ GE486.out) | exact HB.out)))); have n5_ := Aside0.mk (blk_below (g := gb462) (o := .cells #[.int .i64 a0_0, .int .i64 a0_1, .int .i64 a0_2, .int .i64 a0_3, .slice A0_4 l0_4.length c0_4] 26 (0, 0)) (by (with_reducible repeat (first | refine blk_drewN ?_ _ | refine blk_drew ?_ | refine blk_alloc ?_ _)); refine blk_far ?_ NB462_486.out _; (with_reducible repeat (first | refine blk_drewN ?_ _ | refine blk_drew ?_ | refine blk_alloc ?_ _)); refine blk_far ?_ NB462_486.out _; (with_reducible repeat (first | refine blk_drewN ?_ _ | refine blk_drew ?_ | refine blk_alloc ?_ _)); refine blk_far ?_ NB462_486.out _; (with_reducible repeat (first | refine blk_drewN ?_ _ | refine blk_drew ?_ | refine blk_alloc ?_ _)); refine blk_far ?_ NB462_486.out _; (with_reducible repeat (first | refine blk_drewN ?_ _ | refine blk_drew ?_ | refine blk_alloc ?_ _)); refine blk_far ?_ NB462_486.out _; (with_reducible repeat (first | refine blk_drewN ?_ _ | refine blk_drew ?_ | refine blk_alloc ?_ _)); exact BK462.out) hb); have n6_ := Aside0.mk (blk_below (g := gb486) (o := .cells #[.int .i64 t479, .int .i64 t480, .int .i64 t481, .int .i64 t482, .slice Ao34 t483.length co34] 31 (0, 0)) (by (with_reducible repeat (first | refine blk_drewN ?_ _ | refine blk_drew ?_ | refine blk_alloc ?_ _)); refine blk_put (cs := #[.int .i64 t479, .int .i64 t480, .int .i64 t481, .int .i64 t482, .slice none 0 0]) ?_ 4 _ rfl; (with_reducible repeat (first | refine blk_drewN ?_ _ | refine blk_drew ?_ | refine blk_alloc ?_ _)); refine blk_put (cs := #[.int .i64 t479, .int .i64 t480, .int .i64 t481, .int .i64 0, .slice none 0 0]) ?_ 3 _ rfl; (with_reducible repeat (first | refine blk_drewN ?_ _ | refine blk_drew ?_ | refine blk_alloc ?_ _)); refine blk_put (cs := #[.int .i64 t479, .int .i64 t480, .int .i64 0, .int .i64 0, .slice none 0 0]) ?_ 2 _ rfl; (with_reducible repeat (first | refine blk_drewN ?_ _ | refine blk_drew ?_ | refine blk_alloc ?_ _)); refine blk_put (cs := #[.int .i64 t479, .int .i64 0, .int .i64 0, .int .i64 0, .slice none 0 0]) ?_ 1 _ rfl; (with_reducible repeat (first | refine blk_drewN ?_ _ | refine blk_drew ?_ | refine blk_alloc ?_ _)); refine blk_put (cs := #[.int .i64 0, .int .i64 0, .int .i64 0, .int .i64 0, .slice none 0 0]) ?_ 0 _ rfl; (with_reducible repeat (first | refine blk_drewN ?_ _ | refine blk_drew ?_ | refine blk_alloc ?_ _)); exact BK486.out) hb); have n7_ := Aside0.mk (below_step (by repeat (first | (with_reducible first | exact HB.out | apply below_alloc | apply pw_below_drewN | apply below_drew1 | refine below_set ?_ GE462.out | refine below_set ?_ GE486.out) | exact HB.out)) hb); clear HO471; clear HO474; clear HO477; clear HO485; clear BK462; clear BK486; clear HB; have HO471 := n0_; have HO474 := n1_; have HO477 := n2_; have HO485 := n3_; have HO489 := n4_; have BK462 := n5_; have BK486 := n6_; have HB := n7_; clear n0_ n1_ n2_ n3_ n4_ n5_ n6_ n7_; (try clear hb); (try clear hb2); (try clear hk); (try clear hi); (try clear ho0); have hcz36_0 : w35.cell? ⟨gb486, 0, none⟩ = some (.int .i64 t479) := (blk_cell BK486.out 0).trans rfl; have hcz36_1 : w35.cell? ⟨gb486, 1, none⟩ = some (.int .i64 t480) := (blk_cell BK486.out 1).trans rfl; have hcz36_2 : w35.cell? ⟨gb486, 2, none⟩ = some (.int .i64 t481) := (blk_cell BK486.out 2).trans rfl; have hcz36_3 : w35.cell? ⟨gb486, 3, none⟩ = some (.int .i64 t482) := (blk_cell BK486.out 3).trans rfl; have hcz36_4 : w35.cell? ⟨gb486, 4, none⟩ = some (.slice Ao34 t483.length co34) := (blk_cell BK486.out 4).trans rfl; have hfz36_0 := blk_frozen BK486.out 0; have hfz36_1 := blk_frozen BK486.out 1; have hfz36_2 := blk_frozen BK486.out 2; have hfz36_3 := blk_frozen BK486.out 3; have hfz36_4 := blk_frozen BK486.out 4; obtain ⟨Ao37, co37, eo37⟩ := Kd.R_slice HO489.out; subst eo37) | ((with_reducible refine gate_callee (f := 21) rfl ?_); refine goesL_ (some 42) rfl rfl Try.func21 (by kernel_rfl) rfl #[.agg #[.int .i64 t479, .int .i64 t480, .int .i64 t481, .int .i64 t482, .slice Ao34 t483.length co34], .slice Ao37 t487.length co37] rfl (by (try simp only [List.map_toArray, List.map_cons, List.map_nil]); first | done | rfl | (simp only [List.length_drop, List.length_take]; rfl)) ?_; (with_reducible refine (impl_DeviationsOf.calls k t479 t480 t481 t482 _ _ t483 _ _ t487 t490 t493 _ ?side1 ?side2 ?side3 ?side4 A18.out).mono ?_); (case side1 => repeat (first | exact (Kd.R_reads' HO485.out).2.2 | (with_reducible refine Kd.C_alloc ?_ _) | (with_reducible refine Kd.C_drewN ?_ _) | (with_reducible refine Kd.C_drew ?_))); (case side2 => exact (Kd.R_reads' HO485.out).2.1); (case side3 => repeat (first | exact (Kd.R_reads' HO489.out).2.2 | (with_reducible refine Kd.C_alloc ?_ _) | (with_reducible refine Kd.C_drewN ?_ _) | (with_reducible refine Kd.C_drew ?_))); (case side4 => exact (Kd.R_reads' HO489.out).2.1); rintro e w38 ⟨v491, rfl, ho0, hb⟩; refine ⟨_, rfl, ?_⟩; have n0_ := Aside0.mk (Kd.R_below (by (with_reducible repeat (first | apply Kd.R_alloc | apply Kd.R_drewN | apply Kd.R_drew)); exact HO471.out) hb); have n1_ := Aside0.mk (Kd.R_below (by (with_reducible repeat (first | apply Kd.R_alloc | apply Kd.R_drewN | apply Kd.R_drew)); exact HO474.out) hb); have n2_ := Aside0.mk (Kd.R_elder' (by (with_reducible repeat (first | apply Kd.R_alloc | apply Kd.R_drewN | apply Kd.R_drew)); exact HO477.out) (Kd.R_base ho0) hb); have n3_ := Aside0.mk (Kd.R_below (by (with_reducible repeat (first | apply Kd.R_alloc | apply Kd.R_drewN | apply Kd.R_drew)); exact HO485.out) hb); have n4_ := Aside0.mk (Kd.R_below (by (with_reducible repeat (first | apply Kd.R_alloc | apply Kd.R_drewN | apply Kd.R_drew)); exact HO489.out) hb); have n5_ := Aside0.mk (Kd.R_lower (Kd.R_new' ho0 (Kd.R_lt (by (with_reducible repeat (first | apply Kd.R_alloc | apply Kd.R_drewN | apply Kd.R_drew)); exact HO477.out))) (below_size (by repeat (first | (with_reducible first | exact HB.out | apply below_alloc | apply pw_below_drewN | apply below_drew1 | refine below_set ?_ GE462.out | refine below_set ?_ GE486.out) | exact HB.out)))); have n6_ := Aside0.mk (blk_below (g := gb462) (o := .cells #[.int .i64 a0_0, .int .i64 a0_1, .int .i64 a0_2, .int .i64 a0_3, .slice A0_4 l0_4.length c0_4] 26 (0, 0)) (by (with_reducible repeat (first | refine blk_drewN ?_ _ | refine blk_drew ?_ | refine blk_alloc ?_ _)); exact BK462.out) hb); have n7_ := Aside0.mk (blk_below (g := gb486) (o := .cells #[.int .i64 t479, .int .i64 t480, .int .i64 t481, .int .i64 t482, .slice Ao34 t483.length co34] 31 (0, 0)) (by (with_reducible repeat (first | refine blk_drewN ?_ _ | refine blk_drew ?_ | refine blk_alloc ?_ _)); exact BK486.out) hb); have n8_ := Aside0.mk (below_step (by repeat (first | (with_reducible first | exact HB.out | apply below_alloc | apply pw_below_drewN | apply below_drew1 | refine below_set ?_ GE462.out | refine below_set ?_ GE486.out) | exact HB.out)) hb); clear HO471; clear HO474; clear HO477; clear HO485; clear HO489; clear BK462; clear BK486; clear HB; have HO471 := n0_; have HO474 := n1_; have HO477 := n2_; have HO485 := n3_; have HO489 := n4_; have HO492 := n5_; have BK462 := n6_; have BK486 := n7_; have HB := n8_; clear n0_ n1_ n2_ n3_ n4_ n5_ n6_ n7_ n8_; (try clear hb); (try clear hb2); (try clear hk); (try clear hi); (try clear ho0)))
   (try simp only [Act.put, List.setIfInBounds_toArray, List.set_cons_zero, List.set_cons_succ])
   go_cut [53] (fun v53 wc => ∃ (kq : Nat) (x53_18 : Bool), v53 = .bool x53_18 ∧ Aside0 (laws_FnExactDeviationsOf.j0 kq l1 t475 t478 t487 t490 t493 x53_18 a0_0 a0_1 a0_2 a0_3 l0_4 t479 t480 t481 t482 t483 = some r) ∧ Aside0 (kq ≤ k) ∧ Aside0 (Kd.R (Kd.int .i64) 2 wc w.heap.size (fun k_ => some k_ ≠ (v491 : Value).ownBlock) v476 t475) ∧ Aside0 (Kd.R k28 28 wc w.heap.size (fun _ => True) (.slice Ao37 t487.length co37) t487) ∧ Aside0 (Kd.R (Kd.int .i64) 2 wc w.heap.size (fun k_ => some k_ ≠ (v476 : Value).ownBlock) v491 t490) ∧ Aside0 (Kd.R k65 65 wc w.heap.size (fun _ => True) (.slice Ao34 t483.length co34) t483) ∧ Aside0 (wc.heap[gb462]? = some (.cells #[.int .i64 a0_0, .int .i64 a0_1, .int .i64 a0_2, .int .i64 a0_3, (.slice A0_4 l0_4.length c0_4)] 26 (0, 0))) ∧ Aside0 (wc.heap[gb486]? = some (.cells #[.int .i64 t479, .int .i64 t480, .int .i64 t481, .int .i64 t482, (.slice Ao34 t483.length co34)] 31 (0, 0))) ∧ Aside0 (Below w.heap.size w wc))
   case first =>
    have H := HC19.out
    clear HC19
    replace H := Option.bind_eq_some_iff.mp H
    obtain ⟨t494, A390, H⟩ := H
    replace H : (if t494 = true then (laws_FnExactDeviationsOf.j0 k l1 t475 t478 t487 t490 t493 (t493 != t478) a0_0 a0_1 a0_2 a0_3 l0_4 t479 t480 t481 t482 t483) else (laws_FnExactDeviationsOf.j0 k l1 t475 t478 t487 t490 t493 true a0_0 a0_1 a0_2 a0_3 l0_4 t479 t480 t481 t482 t483)) = some r := H
    have A39 := Aside0.mk A390
    clear A390
    by_cases c40 : t494 = true
    ·subst c40
     have H1 : (laws_FnExactDeviationsOf.j0 k l1 t475 t478 t487 t490 t493 (t493 != t478) a0_0 a0_1 a0_2 a0_3 l0_4 t479 t480 t481 t482 t483) = some r := by rw [if_pos rfl] at H; exact H
     clear H
     have H := H1
     clear H1
     have H' := Aside0.mk H
     clear H
     obtain ⟨Ao41, co41, eo41⟩ := Kd.R_slice HO492.out
     subst eo41
     obtain ⟨Ao42, co42, eo42⟩ := Kd.R_slice HO477.out
     subst eo42
     go_wp2_with (first | ((with_reducible refine gate_callee (f := 22) rfl ?_); refine goesL_ (some 47) rfl rfl Try.func22 (by kernel_rfl) rfl #[.slice Ao41 t490.length co41, .slice Ao42 t475.length co42] rfl (by (try simp only [List.map_toArray, List.map_cons, List.map_nil]); first | done | rfl | (simp only [List.length_drop, List.length_take]; rfl)) ?_; (with_reducible refine (laws_eqInt64S.calls k _ _ t490 _ _ t475 true _ ?side1 ?side2 ?side3 ?side4 A39.out).mono ?_); (case side1 => repeat (first | exact (Kd.R_reads' HO492.out).2.2 | (with_reducible refine Kd.C_alloc ?_ _) | (with_reducible refine Kd.C_drewN ?_ _) | (with_reducible refine Kd.C_drew ?_))); (case side2 => exact (Kd.R_reads' HO492.out).2.1); (case side3 => repeat (first | exact (Kd.R_reads' HO477.out).2.2 | (with_reducible refine Kd.C_alloc ?_ _) | (with_reducible refine Kd.C_drewN ?_ _) | (with_reducible refine Kd.C_drew ?_))); (case side4 => exact (Kd.R_reads' HO477.out).2.1); rintro e w' ⟨rfl, ⟨nd, rfl⟩⟩; refine ⟨_, rfl, ?_⟩))
     go_meet
     case rel => exact ⟨_, ((t493 != t478)), (by first | rfl | (simp; done) | (simp [*]; done)), H', ⟨by first | omega | exact Nat.le_refl _⟩, ⟨by (with_reducible repeat (first | apply Kd.R_alloc | apply Kd.R_drewN | apply Kd.R_drew)); exact Kd.R_mono HO477.out (fun _ hk => hk.2)⟩, ⟨by (with_reducible repeat (first | apply Kd.R_alloc | apply Kd.R_drewN | apply Kd.R_drew)); exact Kd.R_mono HO489.out (fun _ hk => trivial)⟩, ⟨by (with_reducible repeat (first | apply Kd.R_alloc | apply Kd.R_drewN | apply Kd.R_drew)); exact Kd.R_mono HO492.out (fun _ hk => hk.2)⟩, ⟨by (with_reducible repeat (first | apply Kd.R_alloc | apply Kd.R_drewN | apply Kd.R_drew)); exact Kd.R_mono HO485.out (fun _ hk => trivial)⟩, ⟨by (with_reducible repeat (first | refine blk_drewN ?_ _ | refine blk_drew ?_ | refine blk_alloc ?_ _)); exact BK462.out⟩, ⟨by (with_reducible repeat (first | refine blk_drewN ?_ _ | refine blk_drew ?_ | refine blk_alloc ?_ _)); exact BK486.out⟩, ⟨by repeat (first | (with_reducible first | exact HB.out | apply below_alloc | apply pw_below_drewN | apply below_drew1 | refine below_set ?_ GE462.out | refine below_set ?_ GE486.out) | exact HB.out)⟩⟩
    ·replace c40 := Bool.eq_false_iff.mpr c40
     subst c40
     have H1 : (laws_FnExactDeviationsOf.j0 k l1 t475 t478 t487 t490 t493 true a0_0 a0_1 a0_2 a0_3 l0_4 t479 t480 t481 t482 t483) = some r := by rw [if_neg (show ¬ (false = true) by decide)] at H; exact H
     clear H
     have H := H1
     clear H1
     have H' := Aside0.mk H
     clear H
     obtain ⟨Ao43, co43, eo43⟩ := Kd.R_slice HO492.out
     subst eo43
     obtain ⟨Ao44, co44, eo44⟩ := Kd.R_slice HO477.out
     subst eo44
     go_wp2_with (first | ((with_reducible refine gate_callee (f := 22) rfl ?_); refine goesL_ (some 47) rfl rfl Try.func22 (by kernel_rfl) rfl #[.slice Ao43 t490.length co43, .slice Ao44 t475.length co44] rfl (by (try simp only [List.map_toArray, List.map_cons, List.map_nil]); first | done | rfl | (simp only [List.length_drop, List.length_take]; rfl)) ?_; (with_reducible refine (laws_eqInt64S.calls k _ _ t490 _ _ t475 false _ ?side1 ?side2 ?side3 ?side4 A39.out).mono ?_); (case side1 => repeat (first | exact (Kd.R_reads' HO492.out).2.2 | (with_reducible refine Kd.C_alloc ?_ _) | (with_reducible refine Kd.C_drewN ?_ _) | (with_reducible refine Kd.C_drew ?_))); (case side2 => exact (Kd.R_reads' HO492.out).2.1); (case side3 => repeat (first | exact (Kd.R_reads' HO477.out).2.2 | (with_reducible refine Kd.C_alloc ?_ _) | (with_reducible refine Kd.C_drewN ?_ _) | (with_reducible refine Kd.C_drew ?_))); (case side4 => exact (Kd.R_reads' HO477.out).2.1); rintro e w' ⟨rfl, ⟨nd, rfl⟩⟩; refine ⟨_, rfl, ?_⟩))
     go_meet
     case rel => exact ⟨_, (true), (by first | rfl | (simp; done) | (simp [*]; done)), H', ⟨by first | omega | exact Nat.le_refl _⟩, ⟨by (with_reducible repeat (first | apply Kd.R_alloc | apply Kd.R_drewN | apply Kd.R_drew)); exact Kd.R_mono HO477.out (fun _ hk => hk.2)⟩, ⟨by (with_reducible repeat (first | apply Kd.R_alloc | apply Kd.R_drewN | apply Kd.R_drew)); exact Kd.R_mono HO489.out (fun _ hk => trivial)⟩, ⟨by (with_reducible repeat (first | apply Kd.R_alloc | apply Kd.R_drewN | apply Kd.R_drew)); exact Kd.R_mono HO492.out (fun _ hk => hk.2)⟩, ⟨by (with_reducible repeat (first | apply Kd.R_alloc | apply Kd.R_drewN | apply Kd.R_drew)); exact Kd.R_mono HO485.out (fun _ hk => trivial)⟩, ⟨by (with_reducible repeat (first | refine blk_drewN ?_ _ | refine blk_drew ?_ | refine blk_alloc ?_ _)); exact BK462.out⟩, ⟨by (with_reducible repeat (first | refine blk_drewN ?_ _ | refine blk_drew ?_ | refine blk_alloc ?_ _)); exact BK486.out⟩, ⟨by repeat (first | (with_reducible first | exact HB.out | apply below_alloc | apply pw_below_drewN | apply below_drew1 | refine below_set ?_ GE462.out | refine below_set ?_ GE486.out) | exact HB.out)⟩⟩
   case rest =>
    clear HC19
    try clear c1
    try clear c2
    try clear p2
    try clear c3
    try clear c4
    try clear c4b0
    try clear c5
    try clear c7
    try clear c9
    try clear c9b0
    try clear c14
    try clear c16
    try clear c20
    try clear c21
    try clear c22
    try clear c32
    try clear c40
    try clear hcz11_0
    try clear hcz11_1
    try clear hcz11_2
    try clear hcz11_3
    try clear hcz11_4
    try clear hcz21_0
    try clear hcz21_1
    try clear hcz21_2
    try clear hcz21_3
    try clear hcz21_4
    try clear hcz23_0
    try clear hcz23_1
    try clear hcz23_2
    try clear hcz23_3
    try clear hcz23_4
    try clear hcz29_0
    try clear hcz29_1
    try clear hcz29_2
    try clear hcz29_3
    try clear hcz29_4
    try clear hcz33_0
    try clear hcz33_1
    try clear hcz33_2
    try clear hcz33_3
    try clear hcz33_4
    try clear hcz36_0
    try clear hcz36_1
    try clear hcz36_2
    try clear hcz36_3
    try clear hcz36_4
    try clear hcz6_0
    try clear hcz6_1
    try clear hcz6_2
    try clear hcz6_3
    try clear hcz6_4
    try clear hfz11_0
    try clear hfz11_1
    try clear hfz11_2
    try clear hfz11_3
    try clear hfz11_4
    try clear hfz21_0
    try clear hfz21_1
    try clear hfz21_2
    try clear hfz21_3
    try clear hfz21_4
    try clear hfz23_0
    try clear hfz23_1
    try clear hfz23_2
    try clear hfz23_3
    try clear hfz23_4
    try clear hfz29_0
    try clear hfz29_1
    try clear hfz29_2
    try clear hfz29_3
    try clear hfz29_4
    try clear hfz33_0
    try clear hfz33_1
    try clear hfz33_2
    try clear hfz33_3
    try clear hfz33_4
    try clear hfz36_0
    try clear hfz36_1
    try clear hfz36_2
    try clear hfz36_3
    try clear hfz36_4
    try clear hfz6_0
    try clear hfz6_1
    try clear hfz6_2
    try clear hfz6_3
    try clear hfz6_4
    obtain ⟨kq, x53_18, rfl, HA, HJ18, HO_6, HO_9, HO_10, HO_487004, BK462, BK486, HB⟩ := hcut
    cases kq with
    | zero => exact absurd HA.out (by simp [laws_FnExactDeviationsOf.j0])
    | succ kj18 =>
     have H := HA.out
     clear HA
     simp only [laws_FnExactDeviationsOf.j0] at H
     by_cases c45 : x53_18 = true
     ·subst c45
      have H1 : (some false) = some r := by rw [if_pos rfl] at H; exact H
      clear H
      have H := H1
      clear H1
      obtain rfl := Option.some.inj H
      go_wp2
      go_ret
      exact ⟨by first | rfl | (simp [errW_none, errW_some] <;> rfl) | (simp [*, errW_none, errW_some] <;> rfl), by repeat (first | (with_reducible first | exact HB.out | apply below_alloc | apply pw_below_drewN | apply below_drew1 | refine below_set ?_ GE462.out | refine below_set ?_ GE486.out) | exact HB.out)⟩
     ·replace c45 := Bool.eq_false_iff.mpr c45
      subst c45
      have H1 : ((laws_toAxis.f kj18 a0_0 a0_1 a0_2 a0_3 l0_4).bind fun bt495 => ((laws_eqAxis.f kj18 t479 t480 t481 t482 t483 bt495.1 bt495.2.1 bt495.2.2.1 bt495.2.2.2.1 bt495.2.2.2.2).bind fun t502 => (if t502 = true then ((laws_toPoseS.f kj18 l1).bind fun t503 => ((laws_eqPoseS.f kj18 t487 t503).bind fun t506 => (if t506 = true then ((laws_markAxis.f kj18 t479 t480 t481 t482 t483 1).bind fun bt507 => ((laws_markPoseS.f kj18 t487 bt507.1).bind fun bt509 => (if bt509.1 < 0 then (laws_FnExactDeviationsOf.j1 kj18 l1 t475 t478 t490 true a0_0 a0_1 a0_2 a0_3 l0_4) else ((laws_eqInt64S.f kj18 t490 t475).bind fun t511 => (if t511 = true then (laws_FnExactDeviationsOf.j1 kj18 l1 t475 t478 t490 (t493 != t478) a0_0 a0_1 a0_2 a0_3 l0_4) else (laws_FnExactDeviationsOf.j1 kj18 l1 t475 t478 t490 true a0_0 a0_1 a0_2 a0_3 l0_4)))))) else (some false)))) else (some false)))) = some r := by rw [if_neg (show ¬ (false = true) by decide)] at H; exact H
      clear H
      have H := H1
      clear H1
      replace H := Option.bind_eq_some_iff.mp H
      obtain ⟨⟨t495, t496, t497, t498, t499⟩, A460, H⟩ := H
      replace H : ((laws_eqAxis.f kj18 t479 t480 t481 t482 t483 t495 t496 t497 t498 t499).bind fun t502 => (if t502 = true then ((laws_toPoseS.f kj18 l1).bind fun t503 => ((laws_eqPoseS.f kj18 t487 t503).bind fun t506 => (if t506 = true then ((laws_markAxis.f kj18 t479 t480 t481 t482 t483 1).bind fun bt507 => ((laws_markPoseS.f kj18 t487 bt507.1).bind fun bt509 => (if bt509.1 < 0 then (laws_FnExactDeviationsOf.j1 kj18 l1 t475 t478 t490 true a0_0 a0_1 a0_2 a0_3 l0_4) else ((laws_eqInt64S.f kj18 t490 t475).bind fun t511 => (if t511 = true then (laws_FnExactDeviationsOf.j1 kj18 l1 t475 t478 t490 (t493 != t478) a0_0 a0_1 a0_2 a0_3 l0_4) else (laws_FnExactDeviationsOf.j1 kj18 l1 t475 t478 t490 true a0_0 a0_1 a0_2 a0_3 l0_4)))))) else (some false)))) else (some false))) = some r := H
      have A46 := Aside0.mk A460
      clear A460
      replace H := Option.bind_eq_some_iff.mp H
      obtain ⟨t502, A470, H⟩ := H
      replace H : (if t502 = true then ((laws_toPoseS.f kj18 l1).bind fun t503 => ((laws_eqPoseS.f kj18 t487 t503).bind fun t506 => (if t506 = true then ((laws_markAxis.f kj18 t479 t480 t481 t482 t483 1).bind fun bt507 => ((laws_markPoseS.f kj18 t487 bt507.1).bind fun bt509 => (if bt509.1 < 0 then (laws_FnExactDeviationsOf.j1 kj18 l1 t475 t478 t490 true a0_0 a0_1 a0_2 a0_3 l0_4) else ((laws_eqInt64S.f kj18 t490 t475).bind fun t511 => (if t511 = true then (laws_FnExactDeviationsOf.j1 kj18 l1 t475 t478 t490 (t493 != t478) a0_0 a0_1 a0_2 a0_3 l0_4) else (laws_FnExactDeviationsOf.j1 kj18 l1 t475 t478 t490 true a0_0 a0_1 a0_2 a0_3 l0_4)))))) else (some false)))) else (some false)) = some r := H
      have A47 := Aside0.mk A470
      clear A470
      by_cases c48 : t502 = true
      ·subst c48
       have H1 : ((laws_toPoseS.f kj18 l1).bind fun t503 => ((laws_eqPoseS.f kj18 t487 t503).bind fun t506 => (if t506 = true then ((laws_markAxis.f kj18 t479 t480 t481 t482 t483 1).bind fun bt507 => ((laws_markPoseS.f kj18 t487 bt507.1).bind fun bt509 => (if bt509.1 < 0 then (laws_FnExactDeviationsOf.j1 kj18 l1 t475 t478 t490 true a0_0 a0_1 a0_2 a0_3 l0_4) else ((laws_eqInt64S.f kj18 t490 t475).bind fun t511 => (if t511 = true then (laws_FnExactDeviationsOf.j1 kj18 l1 t475 t478 t490 (t493 != t478) a0_0 a0_1 a0_2 a0_3 l0_4) else (laws_FnExactDeviationsOf.j1 kj18 l1 t475 t478 t490 true a0_0 a0_1 a0_2 a0_3 l0_4)))))) else (some false)))) = some r := by rw [if_pos rfl] at H; exact H
       clear H
       have H := H1
       clear H1
       replace H := Option.bind_eq_some_iff.mp H
       obtain ⟨t503, A490, H⟩ := H
       replace H : ((laws_eqPoseS.f kj18 t487 t503).bind fun t506 => (if t506 = true then ((laws_markAxis.f kj18 t479 t480 t481 t482 t483 1).bind fun bt507 => ((laws_markPoseS.f kj18 t487 bt507.1).bind fun bt509 => (if bt509.1 < 0 then (laws_FnExactDeviationsOf.j1 kj18 l1 t475 t478 t490 true a0_0 a0_1 a0_2 a0_3 l0_4) else ((laws_eqInt64S.f kj18 t490 t475).bind fun t511 => (if t511 = true then (laws_FnExactDeviationsOf.j1 kj18 l1 t475 t478 t490 (t493 != t478) a0_0 a0_1 a0_2 a0_3 l0_4) else (laws_FnExactDeviationsOf.j1 kj18 l1 t475 t478 t490 true a0_0 a0_1 a0_2 a0_3 l0_4)))))) else (some false))) = some r := H
       have A49 := Aside0.mk A490
       clear A490
       replace H := Option.bind_eq_some_iff.mp H
       obtain ⟨t506, A500, H⟩ := H
       replace H : (if t506 = true then ((laws_markAxis.f kj18 t479 t480 t481 t482 t483 1).bind fun bt507 => ((laws_markPoseS.f kj18 t487 bt507.1).bind fun bt509 => (if bt509.1 < 0 then (laws_FnExactDeviationsOf.j1 kj18 l1 t475 t478 t490 true a0_0 a0_1 a0_2 a0_3 l0_4) else ((laws_eqInt64S.f kj18 t490 t475).bind fun t511 => (if t511 = true then (laws_FnExactDeviationsOf.j1 kj18 l1 t475 t478 t490 (t493 != t478) a0_0 a0_1 a0_2 a0_3 l0_4) else (laws_FnExactDeviationsOf.j1 kj18 l1 t475 t478 t490 true a0_0 a0_1 a0_2 a0_3 l0_4)))))) else (some false)) = some r := H
       have A50 := Aside0.mk A500
       clear A500
       by_cases c51 : t506 = true
       ·subst c51
        have H1 : ((laws_markAxis.f kj18 t479 t480 t481 t482 t483 1).bind fun bt507 => ((laws_markPoseS.f kj18 t487 bt507.1).bind fun bt509 => (if bt509.1 < 0 then (laws_FnExactDeviationsOf.j1 kj18 l1 t475 t478 t490 true a0_0 a0_1 a0_2 a0_3 l0_4) else ((laws_eqInt64S.f kj18 t490 t475).bind fun t511 => (if t511 = true then (laws_FnExactDeviationsOf.j1 kj18 l1 t475 t478 t490 (t493 != t478) a0_0 a0_1 a0_2 a0_3 l0_4) else (laws_FnExactDeviationsOf.j1 kj18 l1 t475 t478 t490 true a0_0 a0_1 a0_2 a0_3 l0_4)))))) = some r := by rw [if_pos rfl] at H; exact H
        clear H
        have H := H1
        clear H1
        replace H := Option.bind_eq_some_iff.mp H
        obtain ⟨⟨t507, t508⟩, A520, H⟩ := H
        replace H : ((laws_markPoseS.f kj18 t487 t507).bind fun bt509 => (if bt509.1 < 0 then (laws_FnExactDeviationsOf.j1 kj18 l1 t475 t478 t490 true a0_0 a0_1 a0_2 a0_3 l0_4) else ((laws_eqInt64S.f kj18 t490 t475).bind fun t511 => (if t511 = true then (laws_FnExactDeviationsOf.j1 kj18 l1 t475 t478 t490 (t493 != t478) a0_0 a0_1 a0_2 a0_3 l0_4) else (laws_FnExactDeviationsOf.j1 kj18 l1 t475 t478 t490 true a0_0 a0_1 a0_2 a0_3 l0_4))))) = some r := H
        have A52 := Aside0.mk A520
        clear A520
        replace H := Option.bind_eq_some_iff.mp H
        obtain ⟨⟨t509, t510⟩, A530, H⟩ := H
        replace H : (if t509 < 0 then (laws_FnExactDeviationsOf.j1 kj18 l1 t475 t478 t490 true a0_0 a0_1 a0_2 a0_3 l0_4) else ((laws_eqInt64S.f kj18 t490 t475).bind fun t511 => (if t511 = true then (laws_FnExactDeviationsOf.j1 kj18 l1 t475 t478 t490 (t493 != t478) a0_0 a0_1 a0_2 a0_3 l0_4) else (laws_FnExactDeviationsOf.j1 kj18 l1 t475 t478 t490 true a0_0 a0_1 a0_2 a0_3 l0_4)))) = some r := H
        have A53 := Aside0.mk A530
        clear A530
        have HC54 := Aside0.mk H
        clear H
        try go_wp2
        have n0_ := Aside0.mk (Kd.R_drew HO_6.out)
        have n1_ := Aside0.mk (Kd.R_drew HO_9.out)
        have n2_ := Aside0.mk (Kd.R_drew HO_10.out)
        have n3_ := Aside0.mk (Kd.R_drew HO_487004.out)
        have n4_ := Aside0.mk (blk_drew BK462.out)
        have n5_ := Aside0.mk (blk_drew BK486.out)
        have n6_ := Aside0.mk (below_drew1 HB.out)
        clear HO_6
        clear HO_9
        clear HO_10
        clear HO_487004
        clear BK462
        clear BK486
        clear HB
        have HO_6 := n0_
        have HO_9 := n1_
        have HO_10 := n2_
        have HO_487004 := n3_
        have BK462 := n4_
        have BK486 := n5_
        have HB := n6_
        clear n0_ n1_ n2_ n3_ n4_ n5_ n6_
        refine start_ (n := 5) (S := fun w' => w'.cell? ⟨gb486, 0, none⟩ = some (.int .i64 t479) ∧ w'.cell? ⟨gb486, 1, none⟩ = some (.int .i64 t480) ∧ w'.cell? ⟨gb486, 2, none⟩ = some (.int .i64 t481) ∧ w'.cell? ⟨gb486, 3, none⟩ = some (.int .i64 t482) ∧ w'.cell? ⟨gb486, 4, none⟩ = some (.slice Ao34 t483.length co34) ∧ w'.cell? ⟨gb462, 0, none⟩ = some (.int .i64 a0_0) ∧ w'.cell? ⟨gb462, 1, none⟩ = some (.int .i64 a0_1) ∧ w'.cell? ⟨gb462, 2, none⟩ = some (.int .i64 a0_2) ∧ w'.cell? ⟨gb462, 3, none⟩ = some (.int .i64 a0_3) ∧ w'.cell? ⟨gb462, 4, none⟩ = some (.slice A0_4 l0_4.length c0_4)) (ds := []) #[false, false, false, false, false] (by kernel_rfl) rfl rfl ⟨(blk_cell BK486.out 0).trans rfl, (blk_cell BK486.out 1).trans rfl, (blk_cell BK486.out 2).trans rfl, (blk_cell BK486.out 3).trans rfl, (blk_cell BK486.out 4).trans rfl, (blk_cell BK462.out 0).trans rfl, (blk_cell BK462.out 1).trans rfl, (blk_cell BK462.out 2).trans rfl, (blk_cell BK462.out 3).trans rfl, (blk_cell BK462.out 4).trans rfl⟩ (fun hHeld => ?_)
        generalize wc.drew = w55 at HO_6 HO_9 HO_10 HO_487004 BK462 BK486 HB hHeld ⊢
        refine take_ (i := 0) (N := some 54) (v := ?_) (a' := ?_) #[true, false, false, false, false] rfl rfl (by kernel_rfl) (fun _ _ _ h => h) (Or.inl ⟨by rfl, ?_⟩) hHeld ?_ ?_
        rotate_left
        ·rintro w' ⟨s0, s1, s2, s3, s4, s5, s6, s7, s8, s9⟩
         go_simp
         with_reducible rfl
        rotate_left
        ·simp only [Act.put, List.setIfInBounds_toArray, List.set_cons_zero, List.set_cons_succ, i64_w, i32_w]
         rfl
        refine take_ (i := 1) (N := some 55) (v := ?_) (a' := ?_) #[true, true, false, false, false] rfl rfl (by kernel_rfl) (fun _ _ _ h => h) (Or.inl ⟨by rfl, ?_⟩) hHeld ?_ ?_
        rotate_left
        ·rintro w' ⟨s0, s1, s2, s3, s4, s5, s6, s7, s8, s9⟩
         go_simp
         with_reducible rfl
        rotate_left
        ·simp only [Act.put, List.setIfInBounds_toArray, List.set_cons_zero, List.set_cons_succ, i64_w, i32_w]
         rfl
        refine one_ (i := 2) (N := some 56) #[true, true, true, false, false] rfl rfl (by kernel_rfl) (by decide) (fun K hK => ?_)
        refine goes_ Try.func9 (by kernel_rfl) rfl #[.agg #[.int .i64 a0_0, .int .i64 a0_1, .int .i64 a0_2, .int .i64 a0_3, .slice A0_4 l0_4.length c0_4]] (by rfl) rfl rfl (by (try simp only [List.map_toArray, List.map_cons, List.map_nil]); first | done | rfl | (simp only [List.length_drop, List.length_take]; rfl)) ?_
        with_reducible refine (laws_toAxis.calls kj18 a0_0 a0_1 a0_2 a0_3 _ _ l0_4 t495 t496 t497 t498 t499 _ ?side1 ?side2 A46.out).mono ?_
        (case side1 => repeat (first | exact (Kd.C_below HR0_4.out HB.out) | (with_reducible refine Kd.C_alloc ?_ _) | (with_reducible refine Kd.C_drewN ?_ _) | (with_reducible refine Kd.C_drew ?_)))
        (case side2 => exact HC0_4.out)
        rintro e w56 ⟨v500, rfl, ho0, hb⟩
        refine ⟨_, rfl, ?_⟩
        have n0_ := Aside0.mk (Kd.R_below (by (with_reducible repeat (first | apply Kd.R_alloc | apply Kd.R_drewN | apply Kd.R_drew)); exact HO_6.out) hb)
        have n1_ := Aside0.mk (Kd.R_below (by (with_reducible repeat (first | apply Kd.R_alloc | apply Kd.R_drewN | apply Kd.R_drew)); exact HO_9.out) hb)
        have n2_ := Aside0.mk (Kd.R_below (by (with_reducible repeat (first | apply Kd.R_alloc | apply Kd.R_drewN | apply Kd.R_drew)); exact HO_10.out) hb)
        have n3_ := Aside0.mk (Kd.R_elder' (by (with_reducible repeat (first | apply Kd.R_alloc | apply Kd.R_drewN | apply Kd.R_drew)); exact HO_487004.out) (Kd.R_base ho0) hb)
        have n4_ := Aside0.mk (Kd.R_lower (Kd.R_new' ho0 (Kd.R_lt (by (with_reducible repeat (first | apply Kd.R_alloc | apply Kd.R_drewN | apply Kd.R_drew)); exact HO_487004.out))) (below_size (by repeat (first | (with_reducible first | exact HB.out | apply below_alloc | apply pw_below_drewN | apply below_drew1 | refine below_set ?_ GE462.out | refine below_set ?_ GE486.out) | exact HB.out))))
        have n5_ := Aside0.mk (blk_below (g := gb462) (o := .cells #[.int .i64 a0_0, .int .i64 a0_1, .int .i64 a0_2, .int .i64 a0_3, .slice A0_4 l0_4.length c0_4] 26 (0, 0)) (by (with_reducible repeat (first | refine blk_drewN ?_ _ | refine blk_drew ?_ | refine blk_alloc ?_ _)); exact BK462.out) hb)
        have n6_ := Aside0.mk (blk_below (g := gb486) (o := .cells #[.int .i64 t479, .int .i64 t480, .int .i64 t481, .int .i64 t482, .slice Ao34 t483.length co34] 31 (0, 0)) (by (with_reducible repeat (first | refine blk_drewN ?_ _ | refine blk_drew ?_ | refine blk_alloc ?_ _)); exact BK486.out) hb)
        have n7_ := Aside0.mk (below_step (by repeat (first | (with_reducible first | exact HB.out | apply below_alloc | apply pw_below_drewN | apply below_drew1 | refine below_set ?_ GE462.out | refine below_set ?_ GE486.out) | exact HB.out)) hb)
        clear HO_6
        clear HO_9
        clear HO_10
        clear HO_487004
        clear BK462
        clear BK486
        clear HB
        have HO_6 := n0_
        have HO_9 := n1_
        have HO_10 := n2_
        have HO_487004 := n3_
        have HO501 := n4_
        have BK462 := n5_
        have BK486 := n6_
        have HB := n7_
        clear n0_ n1_ n2_ n3_ n4_ n5_ n6_ n7_
        (try clear hb)
        (try clear hb2)
        (try clear hk)
        (try clear hi)
        (try clear ho0)
        obtain ⟨Ao57, co57, eo57⟩ := Kd.R_slice HO501.out
        (first | subst eo57 | (injection eo57 with f1_ f2_ f3_; have f4_ := f1_.symm; have f5_ := f3_.symm; clear f1_ f2_ f3_; subst f4_; subst f5_))
        refine hK.out _ _ ⟨(blk_cell BK486.out 0).trans rfl, (blk_cell BK486.out 1).trans rfl, (blk_cell BK486.out 2).trans rfl, (blk_cell BK486.out 3).trans rfl, (blk_cell BK486.out 4).trans rfl, (blk_cell BK462.out 0).trans rfl, (blk_cell BK462.out 1).trans rfl, (blk_cell BK462.out 2).trans rfl, (blk_cell BK462.out 3).trans rfl, (blk_cell BK462.out 4).trans rfl⟩ (fun hHeld => ?_)
        clear hK K
        refine norm_ (a' := ?_) ?_ ?_
        rotate_left
        ·show Act.put _ (some 56) _ = _
         simp only [Act.put, List.setIfInBounds_toArray, List.set_cons_zero, List.set_cons_succ, i64_w, i32_w]
         rfl
        refine one_ (i := 3) (N := some 57) #[true, true, true, true, false] rfl rfl (by kernel_rfl) (by decide) (fun K hK => ?_)
        refine goes_ Try.func11 (by kernel_rfl) rfl #[.agg #[.int .i64 t479, .int .i64 t480, .int .i64 t481, .int .i64 t482, .slice Ao34 t483.length co34], .agg #[.int .i64 t495, .int .i64 t496, .int .i64 t497, .int .i64 t498, .slice Ao57 t499.length co57]] (by rfl) rfl rfl (by (try simp only [List.map_toArray, List.map_cons, List.map_nil]); first | done | rfl | (simp only [List.length_drop, List.length_take]; rfl)) ?_
        with_reducible refine (laws_eqAxis.calls kj18 t479 t480 t481 t482 _ _ t483 t495 t496 t497 t498 _ _ t499 true _ ?side1 ?side2 ?side3 ?side4 A47.out).mono ?_
        (case side1 => repeat (first | exact (Kd.R_reads' HO_487004.out).2.2 | (with_reducible refine Kd.C_alloc ?_ _) | (with_reducible refine Kd.C_drewN ?_ _) | (with_reducible refine Kd.C_drew ?_)))
        (case side2 => exact (Kd.R_reads' HO_487004.out).2.1)
        (case side3 => repeat (first | exact (Kd.R_reads' HO501.out).2.2 | (with_reducible refine Kd.C_alloc ?_ _) | (with_reducible refine Kd.C_drewN ?_ _) | (with_reducible refine Kd.C_drew ?_)))
        (case side4 => exact (Kd.R_reads' HO501.out).2.1)
        rintro e w58 ⟨rfl, hb⟩
        refine ⟨_, rfl, ?_⟩
        have n0_ := Aside0.mk (Kd.R_below (by (with_reducible repeat (first | apply Kd.R_alloc | apply Kd.R_drewN | apply Kd.R_drew)); exact HO_6.out) hb)
        have n1_ := Aside0.mk (Kd.R_below (by (with_reducible repeat (first | apply Kd.R_alloc | apply Kd.R_drewN | apply Kd.R_drew)); exact HO_9.out) hb)
        have n2_ := Aside0.mk (Kd.R_below (by (with_reducible repeat (first | apply Kd.R_alloc | apply Kd.R_drewN | apply Kd.R_drew)); exact HO_10.out) hb)
        have n3_ := Aside0.mk (Kd.R_below (by (with_reducible repeat (first | apply Kd.R_alloc | apply Kd.R_drewN | apply Kd.R_drew)); exact HO_487004.out) hb)
        have n4_ := Aside0.mk (Kd.R_below (by (with_reducible repeat (first | apply Kd.R_alloc | apply Kd.R_drewN | apply Kd.R_drew)); exact HO501.out) hb)
        have n5_ := Aside0.mk (blk_below (g := gb462) (o := .cells #[.int .i64 a0_0, .int .i64 a0_1, .int .i64 a0_2, .int .i64 a0_3, .slice A0_4 l0_4.length c0_4] 26 (0, 0)) (by (with_reducible repeat (first | refine blk_drewN ?_ _ | refine blk_drew ?_ | refine blk_alloc ?_ _)); exact BK462.out) hb)
        have n6_ := Aside0.mk (blk_below (g := gb486) (o := .cells #[.int .i64 t479, .int .i64 t480, .int .i64 t481, .int .i64 t482, .slice Ao34 t483.length co34] 31 (0, 0)) (by (with_reducible repeat (first | refine blk_drewN ?_ _ | refine blk_drew ?_ | refine blk_alloc ?_ _)); exact BK486.out) hb)
        have n7_ := Aside0.mk (below_step (by repeat (first | (with_reducible first | exact HB.out | apply below_alloc | apply pw_below_drewN | apply below_drew1 | refine below_set ?_ GE462.out | refine below_set ?_ GE486.out) | exact HB.out)) hb)
        clear HO_6
        clear HO_9
        clear HO_10
        clear HO_487004
        clear HO501
        clear BK462
        clear BK486
        clear HB
        have HO_6 := n0_
        have HO_9 := n1_
        have HO_10 := n2_
        have HO_487004 := n3_
        have HO501 := n4_
        have BK462 := n5_
        have BK486 := n6_
        have HB := n7_
        clear n0_ n1_ n2_ n3_ n4_ n5_ n6_ n7_
        (try clear hb)
        (try clear hb2)
        (try clear hk)
        (try clear hi)
        refine hK.out _ _ ⟨(blk_cell BK486.out 0).trans rfl, (blk_cell BK486.out 1).trans rfl, (blk_cell BK486.out 2).trans rfl, (blk_cell BK486.out 3).trans rfl, (blk_cell BK486.out 4).trans rfl, (blk_cell BK462.out 0).trans rfl, (blk_cell BK462.out 1).trans rfl, (blk_cell BK462.out 2).trans rfl, (blk_cell BK462.out 3).trans rfl, (blk_cell BK462.out 4).trans rfl⟩ (fun hHeld => ?_)
        clear hK K
        refine norm_ (a' := ?_) ?_ ?_
        rotate_left
        ·show Act.put _ (some 57) _ = _
         simp only [Act.put, List.setIfInBounds_toArray, List.set_cons_zero, List.set_cons_succ, i64_w, i32_w]
         rfl
        refine pure_ (i := 4) (N := some 58) (v := ?_) (a' := ?_) #[true, true, true, true, true] rfl rfl (by kernel_rfl) (fun _ _ _ h => h) (Or.inl ⟨by rfl, ?_⟩) ?_ ?_
        rotate_left
        ·intro w'
         go_simp
         with_reducible rfl
        rotate_left
        ·simp only [Act.put, List.setIfInBounds_toArray, List.set_cons_zero, List.set_cons_succ, i64_w, i32_w]
         rfl
        refine done_ (by kernel_rfl) ?_
        go_upto_region 21 with (first | ((with_reducible refine gate_callee (f := 16) rfl ?_); refine goesL_ (some 61) rfl rfl Try.func16 (by kernel_rfl) rfl #[.slice A1 l1.length c1] rfl (by (try simp only [List.map_toArray, List.map_cons, List.map_nil]); first | done | rfl | (simp only [List.length_drop, List.length_take]; rfl)) ?_; (with_reducible refine (laws_toPoseS.calls kj18 _ _ l1 t503 _ ?side1 ?side2 A49.out).mono ?_); (case side1 => repeat (first | exact (Kd.C_below HR1.out HB.out) | (with_reducible refine Kd.C_alloc ?_ _) | (with_reducible refine Kd.C_drewN ?_ _) | (with_reducible refine Kd.C_drew ?_))); (case side2 => exact HC1.out); rintro e w59 ⟨v504, rfl, ho0, hb⟩; refine ⟨_, rfl, ?_⟩; have n0_ := Aside0.mk (Kd.R_below (by (with_reducible repeat (first | apply Kd.R_alloc | apply Kd.R_drewN | apply Kd.R_drew)); exact HO_6.out) hb); have n1_ := Aside0.mk (Kd.R_elder' (by (with_reducible repeat (first | apply Kd.R_alloc | apply Kd.R_drewN | apply Kd.R_drew)); exact HO_9.out) (Kd.R_base ho0) hb); have n2_ := Aside0.mk (Kd.R_below (by (with_reducible repeat (first | apply Kd.R_alloc | apply Kd.R_drewN | apply Kd.R_drew)); exact HO_10.out) hb); have n3_ := Aside0.mk (Kd.R_below (by (with_reducible repeat (first | apply Kd.R_alloc | apply Kd.R_drewN | apply Kd.R_drew)); exact HO_487004.out) hb); have n4_ := Aside0.mk (Kd.R_below (by (with_reducible repeat (first | apply Kd.R_alloc | apply Kd.R_drewN | apply Kd.R_drew)); exact HO501.out) hb); have n5_ := Aside0.mk (Kd.R_lower (Kd.R_new' ho0 (Kd.R_lt (by (with_reducible repeat (first | apply Kd.R_alloc | apply Kd.R_drewN | apply Kd.R_drew)); exact HO_9.out))) (below_size (by repeat (first | (with_reducible first | exact HB.out | apply below_alloc | apply pw_below_drewN | apply below_drew1 | refine below_set ?_ GE462.out | refine below_set ?_ GE486.out) | exact HB.out)))); have n6_ := Aside0.mk (blk_below (g := gb462) (o := .cells #[.int .i64 a0_0, .int .i64 a0_1, .int .i64 a0_2, .int .i64 a0_3, .slice A0_4 l0_4.length c0_4] 26 (0, 0)) (by (with_reducible repeat (first | refine blk_drewN ?_ _ | refine blk_drew ?_ | refine blk_alloc ?_ _)); exact BK462.out) hb); have n7_ := Aside0.mk (blk_below (g := gb486) (o := .cells #[.int .i64 t479, .int .i64 t480, .int .i64 t481, .int .i64 t482, .slice Ao34 t483.length co34] 31 (0, 0)) (by (with_reducible repeat (first | refine blk_drewN ?_ _ | refine blk_drew ?_ | refine blk_alloc ?_ _)); exact BK486.out) hb); have n8_ := Aside0.mk (below_step (by repeat (first | (with_reducible first | exact HB.out | apply below_alloc | apply pw_below_drewN | apply below_drew1 | refine below_set ?_ GE462.out | refine below_set ?_ GE486.out) | exact HB.out)) hb); clear HO_6; clear HO_9; clear HO_10; clear HO_487004; clear HO501; clear BK462; clear BK486; clear HB; have HO_6 := n0_; have HO_9 := n1_; have HO_10 := n2_; have HO_487004 := n3_; have HO501 := n4_; have HO505 := n5_; have BK462 := n6_; have BK486 := n7_; have HB := n8_; clear n0_ n1_ n2_ n3_ n4_ n5_ n6_ n7_ n8_; (try clear hb); (try clear hb2); (try clear hk); (try clear hi); (try clear ho0); obtain ⟨Ao60, co60, eo60⟩ := Kd.R_slice HO505.out; subst eo60) | ((with_reducible refine gate_callee (f := 18) rfl ?_); refine goesL_ (some 62) rfl rfl Try.func18 (by kernel_rfl) rfl #[.slice Ao37 t487.length co37, .slice Ao60 t503.length co60] rfl (by (try simp only [List.map_toArray, List.map_cons, List.map_nil]); first | done | rfl | (simp only [List.length_drop, List.length_take]; rfl)) ?_; (with_reducible refine (laws_eqPoseS.calls kj18 _ _ t487 _ _ t503 true _ ?side1 ?side2 ?side3 ?side4 A50.out).mono ?_); (case side1 => repeat (first | exact (Kd.R_reads' HO_9.out).2.2 | (with_reducible refine Kd.C_alloc ?_ _) | (with_reducible refine Kd.C_drewN ?_ _) | (with_reducible refine Kd.C_drew ?_))); (case side2 => exact (Kd.R_reads' HO_9.out).2.1); (case side3 => repeat (first | exact (Kd.R_reads' HO505.out).2.2 | (with_reducible refine Kd.C_alloc ?_ _) | (with_reducible refine Kd.C_drewN ?_ _) | (with_reducible refine Kd.C_drew ?_))); (case side4 => exact (Kd.R_reads' HO505.out).2.1); rintro e w61 ⟨rfl, hb⟩; refine ⟨_, rfl, ?_⟩; have n0_ := Aside0.mk (Kd.R_below (by (with_reducible repeat (first | apply Kd.R_alloc | apply Kd.R_drewN | apply Kd.R_drew)); exact HO_6.out) hb); have n1_ := Aside0.mk (Kd.R_below (by (with_reducible repeat (first | apply Kd.R_alloc | apply Kd.R_drewN | apply Kd.R_drew)); exact HO_9.out) hb); have n2_ := Aside0.mk (Kd.R_below (by (with_reducible repeat (first | apply Kd.R_alloc | apply Kd.R_drewN | apply Kd.R_drew)); exact HO_10.out) hb); have n3_ := Aside0.mk (Kd.R_below (by (with_reducible repeat (first | apply Kd.R_alloc | apply Kd.R_drewN | apply Kd.R_drew)); exact HO_487004.out) hb); have n4_ := Aside0.mk (Kd.R_below (by (with_reducible repeat (first | apply Kd.R_alloc | apply Kd.R_drewN | apply Kd.R_drew)); exact HO501.out) hb); have n5_ := Aside0.mk (Kd.R_below (by (with_reducible repeat (first | apply Kd.R_alloc | apply Kd.R_drewN | apply Kd.R_drew)); exact HO505.out) hb); have n6_ := Aside0.mk (blk_below (g := gb462) (o := .cells #[.int .i64 a0_0, .int .i64 a0_1, .int .i64 a0_2, .int .i64 a0_3, .slice A0_4 l0_4.length c0_4] 26 (0, 0)) (by (with_reducible repeat (first | refine blk_drewN ?_ _ | refine blk_drew ?_ | refine blk_alloc ?_ _)); exact BK462.out) hb); have n7_ := Aside0.mk (blk_below (g := gb486) (o := .cells #[.int .i64 t479, .int .i64 t480, .int .i64 t481, .int .i64 t482, .slice Ao34 t483.length co34] 31 (0, 0)) (by (with_reducible repeat (first | refine blk_drewN ?_ _ | refine blk_drew ?_ | refine blk_alloc ?_ _)); exact BK486.out) hb); have n8_ := Aside0.mk (below_step (by repeat (first | (with_reducible first | exact HB.out | apply below_alloc | apply pw_below_drewN | apply below_drew1 | refine below_set ?_ GE462.out | refine below_set ?_ GE486.out) | exact HB.out)) hb); clear HO_6; clear HO_9; clear HO_10; clear HO_487004; clear HO501; clear HO505; clear BK462; clear BK486; clear HB; have HO_6 := n0_; have HO_9 := n1_; have HO_10 := n2_; have HO_487004 := n3_; have HO501 := n4_; have HO505 := n5_; have BK462 := n6_; have BK486 := n7_; have HB := n8_; clear n0_ n1_ n2_ n3_ n4_ n5_ n6_ n7_ n8_; (try clear hb); (try clear hb2); (try clear hk); (try clear hi); have hnb62 := NB486_462.out; have hnc62 := NB462_486.out; have hcz63_0 : w61.cell? ⟨gb486, 0, none⟩ = some (.int .i64 t479) := (blk_cell BK486.out 0).trans rfl; have hcz63_1 : w61.cell? ⟨gb486, 1, none⟩ = some (.int .i64 t480) := (blk_cell BK486.out 1).trans rfl; have hcz63_2 : w61.cell? ⟨gb486, 2, none⟩ = some (.int .i64 t481) := (blk_cell BK486.out 2).trans rfl; have hcz63_3 : w61.cell? ⟨gb486, 3, none⟩ = some (.int .i64 t482) := (blk_cell BK486.out 3).trans rfl; have hcz63_4 : w61.cell? ⟨gb486, 4, none⟩ = some (.slice Ao34 t483.length co34) := (blk_cell BK486.out 4).trans rfl; have hfz63_0 := blk_frozen BK486.out 0; have hfz63_1 := blk_frozen BK486.out 1; have hfz63_2 := blk_frozen BK486.out 2; have hfz63_3 := blk_frozen BK486.out 3; have hfz63_4 := blk_frozen BK486.out 4) | ((with_reducible refine gate_callee (f := 12) rfl ?_); refine goesL_ (some 66) rfl rfl Try.func12 (by kernel_rfl) rfl #[.agg #[.int .i64 t479, .int .i64 t480, .int .i64 t481, .int .i64 t482, .slice Ao34 t483.length co34], .int .i64 1] rfl (by (try simp only [List.map_toArray, List.map_cons, List.map_nil]); first | done | rfl | (simp only [List.length_drop, List.length_take]; rfl)) ?_; (with_reducible refine (laws_markAxis.calls kj18 t479 t480 t481 t482 (fun k_ => some k_ = (.slice Ao34 t483.length co34 : Value).ownBlock) (.slice Ao34 t483.length co34) t483 1 t507 t508 w _ ?side1 ?side2 A52.out).mono ?_); (case side1 => repeat (first | (with_reducible first | exact HB.out | apply below_alloc | apply pw_below_drewN | apply below_drew1 | refine below_set ?_ GE462.out | refine below_set ?_ GE486.out) | exact HB.out)); (case side2 => exact Kd.R_tight rfl HO_487004.out); rintro e w64 ⟨rfl, hy0, hb, hkp⟩; refine ⟨_, rfl, ?_⟩; have n0_ := Aside0.mk (Kd.R_mono (ok' := fun k_ => some k_ ≠ (v491 : Value).ownBlock) (Kd.R_keptB ((Kd.R_apart' HO_6.out (Kd.R_typed HO_487004.out) (by decide))) hkp (fun k_ hk_ hs_ => (hk_.2) hs_)) (fun k_ hk_ => hk_.1.1)); have n1_ := Aside0.mk (Kd.R_mono (ok' := fun k_ => some k_ ≠ (.slice Ao60 t503.length co60 : Value).ownBlock) (Kd.R_keptB ((Kd.R_apart' HO_9.out (Kd.R_typed HO_487004.out) (by decide))) hkp (fun k_ hk_ hs_ => (hk_.2) hs_)) (fun k_ hk_ => hk_.1.1.2)); have n2_ := Aside0.mk (Kd.R_mono (ok' := fun k_ => some k_ ≠ (v476 : Value).ownBlock) (Kd.R_keptB ((Kd.R_apart' HO_10.out (Kd.R_typed HO_487004.out) (by decide))) hkp (fun k_ hk_ hs_ => (hk_.2) hs_)) (fun k_ hk_ => hk_.1.1)); have n3_ := Aside0.mk (Kd.R_reok rfl hy0 (fun k_ e_ => HO_487004.out.1 k_ e_)); have n4_ := Aside0.mk (blk_kept (by (with_reducible repeat (first | refine blk_drewN ?_ _ | refine blk_drew ?_ | refine blk_alloc ?_ _)); exact BK462.out) hkp (fun hs_ => (fun e_ => (Kd.R_ne HO_487004.out BK462.out (by decide)) e_) hs_)); have n5_ := Aside0.mk (blk_kept (by (with_reducible repeat (first | refine blk_drewN ?_ _ | refine blk_drew ?_ | refine blk_alloc ?_ _)); exact BK486.out) hkp (fun hs_ => (fun e_ => (Kd.R_ne HO_487004.out BK486.out (by decide)) e_) hs_)); have n6_ := Aside0.mk (Kd.R_mono (ok' := fun k_ => some k_ ≠ (.slice Ao34 t483.length co34 : Value).ownBlock) (Kd.R_keptB (HO501.out) hkp (fun k_ hk_ hs_ => (hk_.2) hs_)) (fun k_ hk_ => hk_.1.2)); have n7_ := Aside0.mk (Kd.R_mono (ok' := fun k_ => some k_ ≠ (.slice Ao37 t487.length co37 : Value).ownBlock) (Kd.R_keptB ((Kd.R_apart' HO505.out (Kd.R_typed HO_487004.out) (by decide))) hkp (fun k_ hk_ hs_ => (hk_.2) hs_)) (fun k_ hk_ => hk_.1.1.2)); have n8_ := Aside0.mk (hb); clear HO_6; clear HO_9; clear HO_10; clear HO_487004; clear BK462; clear BK486; clear HO501; clear HO505; clear HB; have HO_6 := n0_; have HO_9 := n1_; have HO_10 := n2_; have HO_487004 := n3_; have BK462 := n4_; have BK486 := n5_; have HO501 := n6_; have HO505 := n7_; have HB := n8_; clear n0_ n1_ n2_ n3_ n4_ n5_ n6_ n7_ n8_; (try clear hb); (try clear hkp); (try clear hy0)) | ((with_reducible refine gate_callee (f := 19) rfl ?_); refine goesL_ (some 69) rfl rfl Try.func19 (by kernel_rfl) rfl #[.slice Ao37 t487.length co37, .int .i64 t507] rfl (by (try simp only [List.map_toArray, List.map_cons, List.map_nil]); first | done | rfl | (simp only [List.length_drop, List.length_take]; rfl)) ?_; (with_reducible refine (laws_markPoseS.calls kj18 (fun k_ => some k_ = (.slice Ao37 t487.length co37 : Value).ownBlock) (.slice Ao37 t487.length co37) t487 t507 t509 t510 w _ ?side1 ?side2 A53.out).mono ?_); (case side1 => repeat (first | (with_reducible first | exact HB.out | apply below_alloc | apply pw_below_drewN | apply below_drew1 | refine below_set ?_ GE462.out | refine below_set ?_ GE486.out) | exact HB.out)); (case side2 => exact Kd.R_tight rfl HO_9.out); rintro e w65 ⟨rfl, hy0, hb, hkp⟩; refine ⟨_, rfl, ?_⟩; have n0_ := Aside0.mk (Kd.R_mono (ok' := fun k_ => some k_ ≠ (v491 : Value).ownBlock) (Kd.R_keptB ((Kd.R_apart' HO_6.out (Kd.R_typed HO_9.out) (by decide))) hkp (fun k_ hk_ hs_ => (hk_.2) hs_)) (fun k_ hk_ => hk_.1.1)); have n1_ := Aside0.mk (Kd.R_reok rfl hy0 (fun k_ e_ => HO_9.out.1 k_ e_)); have n2_ := Aside0.mk (Kd.R_mono (ok' := fun k_ => some k_ ≠ (v476 : Value).ownBlock) (Kd.R_keptB ((Kd.R_apart' HO_10.out (Kd.R_typed HO_9.out) (by decide))) hkp (fun k_ hk_ hs_ => (hk_.2) hs_)) (fun k_ hk_ => hk_.1.1)); have n3_ := Aside0.mk (Kd.R_mono (ok' := fun k_ => some k_ ≠ (.slice Ao57 t499.length co57 : Value).ownBlock) (Kd.R_keptB ((Kd.R_apart' HO_487004.out (Kd.R_typed HO_9.out) (by decide))) hkp (fun k_ hk_ hs_ => (hk_.2) hs_)) (fun k_ hk_ => hk_.1.1.2)); have n4_ := Aside0.mk (blk_kept (by (with_reducible repeat (first | refine blk_drewN ?_ _ | refine blk_drew ?_ | refine blk_alloc ?_ _)); exact BK462.out) hkp (fun hs_ => (fun e_ => (Kd.R_ne HO_9.out BK462.out (by decide)) e_) hs_)); have n5_ := Aside0.mk (blk_kept (by (with_reducible repeat (first | refine blk_drewN ?_ _ | refine blk_drew ?_ | refine blk_alloc ?_ _)); exact BK486.out) hkp (fun hs_ => (fun e_ => (Kd.R_ne HO_9.out BK486.out (by decide)) e_) hs_)); have n6_ := Aside0.mk (Kd.R_mono (ok' := fun k_ => some k_ ≠ (.slice Ao34 t483.length co34 : Value).ownBlock) (Kd.R_keptB ((Kd.R_apart' HO501.out (Kd.R_typed HO_9.out) (by decide))) hkp (fun k_ hk_ hs_ => (hk_.2) hs_)) (fun k_ hk_ => hk_.1.1)); have n7_ := Aside0.mk (Kd.R_mono (ok' := fun k_ => some k_ ≠ (.slice Ao37 t487.length co37 : Value).ownBlock) (Kd.R_keptB (HO505.out) hkp (fun k_ hk_ hs_ => (hk_) hs_)) (fun k_ hk_ => hk_.1)); have n8_ := Aside0.mk (hb); clear HO_6; clear HO_9; clear HO_10; clear HO_487004; clear BK462; clear BK486; clear HO501; clear HO505; clear HB; have HO_6 := n0_; have HO_9 := n1_; have HO_10 := n2_; have HO_487004 := n3_; have BK462 := n4_; have BK486 := n5_; have HO501 := n6_; have HO505 := n7_; have HB := n8_; clear n0_ n1_ n2_ n3_ n4_ n5_ n6_ n7_ n8_; (try clear hb); (try clear hkp); (try clear hy0)))
        (try simp only [Act.put, List.setIfInBounds_toArray, List.set_cons_zero, List.set_cons_succ])
        go_cut [82] (fun v82 wc => ∃ (kq : Nat) (x82_53 : Bool), v82 = .bool x82_53 ∧ Aside0 (laws_FnExactDeviationsOf.j1 kq l1 t475 t478 t490 x82_53 a0_0 a0_1 a0_2 a0_3 l0_4 = some r) ∧ Aside0 (kq ≤ kj18) ∧ Aside0 (Kd.R (Kd.int .i64) 2 wc w.heap.size (fun k_ => some k_ ≠ (v491 : Value).ownBlock) v476 t475) ∧ Aside0 (Kd.R (Kd.int .i64) 2 wc w.heap.size (fun k_ => some k_ ≠ (v476 : Value).ownBlock) v491 t490) ∧ Aside0 (Kd.R k65 65 wc w.heap.size (fun _ => True) (.slice Ao34 t483.length co34) t508) ∧ Aside0 (wc.heap[gb462]? = some (.cells #[.int .i64 a0_0, .int .i64 a0_1, .int .i64 a0_2, .int .i64 a0_3, (.slice A0_4 l0_4.length c0_4)] 26 (0, 0))) ∧ Aside0 (wc.heap[gb486]? = some (.cells #[.int .i64 t479, .int .i64 t480, .int .i64 t481, .int .i64 t482, (.slice Ao34 t483.length co34)] 31 (0, 0))) ∧ Aside0 (Below w.heap.size w wc))
        case first =>
         have H := HC54.out
         clear HC54
         by_cases c66 : t509 < 0
         ·rw [if_pos c66] at H
          have c66b0 : decide (t509 < 0) = true := decide_eq_true c66
          clear c66
          (first | rw [c66b0] | (simp only [i64_w, i32_w]; rw [c66b0]) | skip)
          have H' := Aside0.mk H
          clear H
          go_wp2
          go_meet
          case rel => exact ⟨_, (true), (by first | rfl | (simp; done) | (simp [*]; done)), H', ⟨by have := HJ18.out; first | omega | exact Nat.le_refl _⟩, ⟨by (with_reducible repeat (first | apply Kd.R_alloc | apply Kd.R_drewN | apply Kd.R_drew)); exact HO_6.out⟩, ⟨by (with_reducible repeat (first | apply Kd.R_alloc | apply Kd.R_drewN | apply Kd.R_drew)); exact HO_10.out⟩, ⟨by (with_reducible repeat (first | apply Kd.R_alloc | apply Kd.R_drewN | apply Kd.R_drew)); exact Kd.R_mono HO_487004.out (fun _ hk => trivial)⟩, ⟨by (with_reducible repeat (first | refine blk_drewN ?_ _ | refine blk_drew ?_ | refine blk_alloc ?_ _)); exact BK462.out⟩, ⟨by (with_reducible repeat (first | refine blk_drewN ?_ _ | refine blk_drew ?_ | refine blk_alloc ?_ _)); exact BK486.out⟩, ⟨by repeat (first | (with_reducible first | exact HB.out | apply below_alloc | apply pw_below_drewN | apply below_drew1 | refine below_set ?_ GE462.out | refine below_set ?_ GE486.out) | exact HB.out)⟩⟩
         ·rw [if_neg c66] at H
          have c66b0 : decide (t509 < 0) = false := decide_eq_false c66
          clear c66
          (first | rw [c66b0] | (simp only [i64_w, i32_w]; rw [c66b0]) | skip)
          replace H := Option.bind_eq_some_iff.mp H
          obtain ⟨t511, A670, H⟩ := H
          replace H : (if t511 = true then (laws_FnExactDeviationsOf.j1 kj18 l1 t475 t478 t490 (t493 != t478) a0_0 a0_1 a0_2 a0_3 l0_4) else (laws_FnExactDeviationsOf.j1 kj18 l1 t475 t478 t490 true a0_0 a0_1 a0_2 a0_3 l0_4)) = some r := H
          have A67 := Aside0.mk A670
          clear A670
          by_cases c68 : t511 = true
          ·subst c68
           have H1 : (laws_FnExactDeviationsOf.j1 kj18 l1 t475 t478 t490 (t493 != t478) a0_0 a0_1 a0_2 a0_3 l0_4) = some r := by rw [if_pos rfl] at H; exact H
           clear H
           have H := H1
           clear H1
           have H' := Aside0.mk H
           clear H
           obtain ⟨Ao69, co69, eo69⟩ := Kd.R_slice HO_10.out
           subst eo69
           obtain ⟨Ao70, co70, eo70⟩ := Kd.R_slice HO_6.out
           subst eo70
           go_wp2_with (first | (go_at_call 22; (with_reducible refine (laws_eqInt64S.calls kj18 _ _ t490 _ _ t475 true _ ?side1 ?side2 ?side3 ?side4 A67.out).mono ?_); (case side1 => repeat (first | exact (Kd.R_reads' HO_10.out).2.2 | (with_reducible refine Kd.C_alloc ?_ _) | (with_reducible refine Kd.C_drewN ?_ _) | (with_reducible refine Kd.C_drew ?_))); (case side2 => exact (Kd.R_reads' HO_10.out).2.1); (case side3 => repeat (first | exact (Kd.R_reads' HO_6.out).2.2 | (with_reducible refine Kd.C_alloc ?_ _) | (with_reducible refine Kd.C_drewN ?_ _) | (with_reducible refine Kd.C_drew ?_))); (case side4 => exact (Kd.R_reads' HO_6.out).2.1); rintro e w' ⟨rfl, ⟨nd, rfl⟩⟩))
           go_meet
           case rel => exact ⟨_, ((t493 != t478)), (by first | rfl | (simp; done) | (simp [*]; done)), H', ⟨by have := HJ18.out; first | omega | exact Nat.le_refl _⟩, ⟨by (with_reducible repeat (first | apply Kd.R_alloc | apply Kd.R_drewN | apply Kd.R_drew)); exact HO_6.out⟩, ⟨by (with_reducible repeat (first | apply Kd.R_alloc | apply Kd.R_drewN | apply Kd.R_drew)); exact HO_10.out⟩, ⟨by (with_reducible repeat (first | apply Kd.R_alloc | apply Kd.R_drewN | apply Kd.R_drew)); exact Kd.R_mono HO_487004.out (fun _ hk => trivial)⟩, ⟨by (with_reducible repeat (first | refine blk_drewN ?_ _ | refine blk_drew ?_ | refine blk_alloc ?_ _)); exact BK462.out⟩, ⟨by (with_reducible repeat (first | refine blk_drewN ?_ _ | refine blk_drew ?_ | refine blk_alloc ?_ _)); exact BK486.out⟩, ⟨by repeat (first | (with_reducible first | exact HB.out | apply below_alloc | apply pw_below_drewN | apply below_drew1 | refine below_set ?_ GE462.out | refine below_set ?_ GE486.out) | exact HB.out)⟩⟩
          ·replace c68 := Bool.eq_false_iff.mpr c68
           subst c68
           have H1 : (laws_FnExactDeviationsOf.j1 kj18 l1 t475 t478 t490 true a0_0 a0_1 a0_2 a0_3 l0_4) = some r := by rw [if_neg (show ¬ (false = true) by decide)] at H; exact H
           clear H
           have H := H1
           clear H1
           have H' := Aside0.mk H
           clear H
           obtain ⟨Ao71, co71, eo71⟩ := Kd.R_slice HO_10.out
           subst eo71
           obtain ⟨Ao72, co72, eo72⟩ := Kd.R_slice HO_6.out
           subst eo72
           go_wp2_with (first | (go_at_call 22; (with_reducible refine (laws_eqInt64S.calls kj18 _ _ t490 _ _ t475 false _ ?side1 ?side2 ?side3 ?side4 A67.out).mono ?_); (case side1 => repeat (first | exact (Kd.R_reads' HO_10.out).2.2 | (with_reducible refine Kd.C_alloc ?_ _) | (with_reducible refine Kd.C_drewN ?_ _) | (with_reducible refine Kd.C_drew ?_))); (case side2 => exact (Kd.R_reads' HO_10.out).2.1); (case side3 => repeat (first | exact (Kd.R_reads' HO_6.out).2.2 | (with_reducible refine Kd.C_alloc ?_ _) | (with_reducible refine Kd.C_drewN ?_ _) | (with_reducible refine Kd.C_drew ?_))); (case side4 => exact (Kd.R_reads' HO_6.out).2.1); rintro e w' ⟨rfl, ⟨nd, rfl⟩⟩))
           go_meet
           case rel => exact ⟨_, (true), (by first | rfl | (simp; done) | (simp [*]; done)), H', ⟨by have := HJ18.out; first | omega | exact Nat.le_refl _⟩, ⟨by (with_reducible repeat (first | apply Kd.R_alloc | apply Kd.R_drewN | apply Kd.R_drew)); exact HO_6.out⟩, ⟨by (with_reducible repeat (first | apply Kd.R_alloc | apply Kd.R_drewN | apply Kd.R_drew)); exact HO_10.out⟩, ⟨by (with_reducible repeat (first | apply Kd.R_alloc | apply Kd.R_drewN | apply Kd.R_drew)); exact Kd.R_mono HO_487004.out (fun _ hk => trivial)⟩, ⟨by (with_reducible repeat (first | refine blk_drewN ?_ _ | refine blk_drew ?_ | refine blk_alloc ?_ _)); exact BK462.out⟩, ⟨by (with_reducible repeat (first | refine blk_drewN ?_ _ | refine blk_drew ?_ | refine blk_alloc ?_ _)); exact BK486.out⟩, ⟨by repeat (first | (with_reducible first | exact HB.out | apply below_alloc | apply pw_below_drewN | apply below_drew1 | refine below_set ?_ GE462.out | refine below_set ?_ GE486.out) | exact HB.out)⟩⟩
        case rest =>
         clear HC54
         try clear c1
         try clear c2
         try clear p2
         try clear c3
         try clear c4
         try clear c4b0
         try clear c5
         try clear c6
         try clear c7
         try clear c9
         try clear c9b0
         try clear c11
         try clear c12
         try clear c14
         try clear c16
         try clear c18
         try clear c19
         try clear c20
         try clear c21
         try clear c22
         try clear c32
         try clear c40
         try clear c45
         try clear c48
         try clear c51
         try clear c62
         try clear c66
         try clear c66b0
         try clear c68
         try clear hcz11_0
         try clear hcz11_1
         try clear hcz11_2
         try clear hcz11_3
         try clear hcz11_4
         try clear hcz21_0
         try clear hcz21_1
         try clear hcz21_2
         try clear hcz21_3
         try clear hcz21_4
         try clear hcz23_0
         try clear hcz23_1
         try clear hcz23_2
         try clear hcz23_3
         try clear hcz23_4
         try clear hcz29_0
         try clear hcz29_1
         try clear hcz29_2
         try clear hcz29_3
         try clear hcz29_4
         try clear hcz33_0
         try clear hcz33_1
         try clear hcz33_2
         try clear hcz33_3
         try clear hcz33_4
         try clear hcz36_0
         try clear hcz36_1
         try clear hcz36_2
         try clear hcz36_3
         try clear hcz36_4
         try clear hcz63_0
         try clear hcz63_1
         try clear hcz63_2
         try clear hcz63_3
         try clear hcz63_4
         try clear hcz6_0
         try clear hcz6_1
         try clear hcz6_2
         try clear hcz6_3
         try clear hcz6_4
         try clear hfz11_0
         try clear hfz11_1
         try clear hfz11_2
         try clear hfz11_3
         try clear hfz11_4
         try clear hfz21_0
         try clear hfz21_1
         try clear hfz21_2
         try clear hfz21_3
         try clear hfz21_4
         try clear hfz23_0
         try clear hfz23_1
         try clear hfz23_2
         try clear hfz23_3
         try clear hfz23_4
         try clear hfz29_0
         try clear hfz29_1
         try clear hfz29_2
         try clear hfz29_3
         try clear hfz29_4
         try clear hfz33_0
         try clear hfz33_1
         try clear hfz33_2
         try clear hfz33_3
         try clear hfz33_4
         try clear hfz36_0
         try clear hfz36_1
         try clear hfz36_2
         try clear hfz36_3
         try clear hfz36_4
         try clear hfz63_0
         try clear hfz63_1
         try clear hfz63_2
         try clear hfz63_3
         try clear hfz63_4
         try clear hfz6_0
         try clear hfz6_1
         try clear hfz6_2
         try clear hfz6_3
         try clear hfz6_4
         try clear p2
         obtain ⟨kq, x82_53, rfl, HA, HJ53, HO_6, HO_10, HO_487004, BK462, BK486, HB⟩ := hcut
         have hl487004_53 := (Kd.R_reads' HO_487004.out).1
         rw [hl487004_53] at HO_487004
         (try simp only [hl487004_53])
         (try simp only [hl487004_53] at BK462)
         (try simp only [hl487004_53] at BK486)
         (try simp only [hl487004_53] at HO_6)
         (try simp only [hl487004_53] at HO_10)
         cases kq with
         | zero => exact absurd HA.out (by simp [laws_FnExactDeviationsOf.j1])
         | succ kj53 =>
          have H := HA.out
          clear HA
          simp only [laws_FnExactDeviationsOf.j1] at H
          by_cases c73 : x82_53 = true
          ·subst c73
           have H1 : (some false) = some r := by rw [if_pos rfl] at H; exact H
           clear H
           have H := H1
           clear H1
           obtain rfl := Option.some.inj H
           go_wp2
           go_ret
           exact ⟨by first | rfl | (simp [errW_none, errW_some] <;> rfl) | (simp [*, errW_none, errW_some] <;> rfl), by repeat (first | (with_reducible first | exact HB.out | apply below_alloc | apply pw_below_drewN | apply below_drew1 | refine below_set ?_ GE462.out | refine below_set ?_ GE486.out) | exact HB.out)⟩
          ·replace c73 := Bool.eq_false_iff.mpr c73
           subst c73
           have H1 : ((laws_markInt64S.f kj53 t490 1).bind fun bt512 => ((laws_heldInt64S.f kj53 bt512.2 1).bind fun t514 => (if t514 < 0 then (some false) else (if t514 = bt512.1 then ((laws_toAxis.f kj53 a0_0 a0_1 a0_2 a0_3 l0_4).bind fun bt515 => ((laws_toPoseS.f kj53 l1).bind fun t522 => ((impl_DeviationsOf.f kj53 bt515.1 bt515.2.1 bt515.2.2.1 bt515.2.2.2.1 bt515.2.2.2.2 t522).bind fun bt525 => ((laws_eqInt64S.f kj53 bt525.1 t475).bind fun t529 => (if t529 = true then (laws_FnExactDeviationsOf.j2 kj53 bt512.2 bt512.1 (bt525.2 != t478)) else (laws_FnExactDeviationsOf.j2 kj53 bt512.2 bt512.1 true)))))) else (some false))))) = some r := by rw [if_neg (show ¬ (false = true) by decide)] at H; exact H
           clear H
           have H := H1
           clear H1
           replace H := Option.bind_eq_some_iff.mp H
           obtain ⟨⟨t512, t513⟩, A740, H⟩ := H
           replace H : ((laws_heldInt64S.f kj53 t513 1).bind fun t514 => (if t514 < 0 then (some false) else (if t514 = t512 then ((laws_toAxis.f kj53 a0_0 a0_1 a0_2 a0_3 l0_4).bind fun bt515 => ((laws_toPoseS.f kj53 l1).bind fun t522 => ((impl_DeviationsOf.f kj53 bt515.1 bt515.2.1 bt515.2.2.1 bt515.2.2.2.1 bt515.2.2.2.2 t522).bind fun bt525 => ((laws_eqInt64S.f kj53 bt525.1 t475).bind fun t529 => (if t529 = true then (laws_FnExactDeviationsOf.j2 kj53 t513 t512 (bt525.2 != t478)) else (laws_FnExactDeviationsOf.j2 kj53 t513 t512 true)))))) else (some false)))) = some r := H
           have A74 := Aside0.mk A740
           clear A740
           replace H := Option.bind_eq_some_iff.mp H
           obtain ⟨t514, A750, H⟩ := H
           replace H : (if t514 < 0 then (some false) else (if t514 = t512 then ((laws_toAxis.f kj53 a0_0 a0_1 a0_2 a0_3 l0_4).bind fun bt515 => ((laws_toPoseS.f kj53 l1).bind fun t522 => ((impl_DeviationsOf.f kj53 bt515.1 bt515.2.1 bt515.2.2.1 bt515.2.2.2.1 bt515.2.2.2.2 t522).bind fun bt525 => ((laws_eqInt64S.f kj53 bt525.1 t475).bind fun t529 => (if t529 = true then (laws_FnExactDeviationsOf.j2 kj53 t513 t512 (bt525.2 != t478)) else (laws_FnExactDeviationsOf.j2 kj53 t513 t512 true)))))) else (some false))) = some r := H
           have A75 := Aside0.mk A750
           clear A750
           by_cases c76 : t514 < 0
           ·rw [if_pos c76] at H
            have c76b0 : decide (t514 < 0) = true := decide_eq_true c76
            clear c76
            obtain rfl := Option.some.inj H
            obtain ⟨Ao77, co77, eo77⟩ := Kd.R_slice HO_10.out
            subst eo77
            go_wp2_with (first | ((with_reducible refine gate_callee (f := 23) rfl ?_); refine goesL_ (some 85) rfl rfl Try.func23 (by kernel_rfl) rfl #[.slice Ao77 t490.length co77, .int .i64 1] rfl (by (try simp only [List.map_toArray, List.map_cons, List.map_nil]); first | done | rfl | (simp only [List.length_drop, List.length_take]; rfl)) ?_; (with_reducible refine (laws_markInt64S.calls kj53 (fun k_ => some k_ = (.slice Ao77 t490.length co77 : Value).ownBlock) (.slice Ao77 t490.length co77) t490 1 t512 t513 w _ ?side1 ?side2 A74.out).mono ?_); (case side1 => repeat (first | (with_reducible first | exact HB.out | apply below_alloc | apply pw_below_drewN | apply below_drew1 | refine below_set ?_ GE462.out | refine below_set ?_ GE486.out) | exact HB.out)); (case side2 => exact Kd.R_tight rfl HO_10.out); rintro e w78 ⟨rfl, hy0, hb, hkp⟩; refine ⟨_, rfl, ?_⟩; have n0_ := Aside0.mk (Kd.R_mono (ok' := fun k_ => some k_ ≠ (.slice Ao77 t490.length co77 : Value).ownBlock) (Kd.R_keptB (HO_6.out) hkp (fun k_ hk_ hs_ => (hk_) hs_)) (fun k_ hk_ => hk_.1)); have n1_ := Aside0.mk (Kd.R_reok rfl hy0 (fun k_ e_ => HO_10.out.1 k_ e_)); have n2_ := Aside0.mk (Kd.R_mono (ok' := fun k_ => True) (Kd.R_keptB ((Kd.R_apart' HO_487004.out (Kd.R_typed HO_10.out) (by decide))) hkp (fun k_ hk_ hs_ => (hk_.2) hs_)) (fun k_ hk_ => trivial)); have n3_ := Aside0.mk (blk_kept (by (with_reducible repeat (first | refine blk_drewN ?_ _ | refine blk_drew ?_ | refine blk_alloc ?_ _)); exact BK462.out) hkp (fun hs_ => (fun e_ => (Kd.R_ne HO_10.out BK462.out (by decide)) e_) hs_)); have n4_ := Aside0.mk (blk_kept (by (with_reducible repeat (first | refine blk_drewN ?_ _ | refine blk_drew ?_ | refine blk_alloc ?_ _)); exact BK486.out) hkp (fun hs_ => (fun e_ => (Kd.R_ne HO_10.out BK486.out (by decide)) e_) hs_)); have n5_ := Aside0.mk (hb); clear HO_6; clear HO_10; clear HO_487004; clear BK462; clear BK486; clear HB; have HO_6 := n0_; have HO_10 := n1_; have HO_487004 := n2_; have BK462 := n3_; have BK486 := n4_; have HB := n5_; clear n0_ n1_ n2_ n3_ n4_ n5_; (try clear hb); (try clear hkp); (try clear hy0)) | ((with_reducible refine gate_callee (f := 24) rfl ?_); refine goesL_ (some 88) rfl rfl Try.func24 (by kernel_rfl) rfl #[.slice Ao77 t513.length co77, .int .i64 1] rfl (by (try simp only [List.map_toArray, List.map_cons, List.map_nil]); first | done | (rw [show t513.length = t490.length from (Kd.R_reads' HO_10.out).1.symm] <;> rfl) | rfl | (simp only [List.length_drop, List.length_take]; rfl)) ?_; (with_reducible refine (laws_heldInt64S.calls kj53 _ _ t513 1 t514 _ ?side1 ?side2 A75.out).mono ?_); (case side1 => repeat (first | exact (Kd.R_reads' HO_10.out).2.2 | (with_reducible refine Kd.C_alloc ?_ _) | (with_reducible refine Kd.C_drewN ?_ _) | (with_reducible refine Kd.C_drew ?_))); (case side2 => rw [show t513.length = t490.length from (Kd.R_reads' HO_10.out).1.symm]; exact (Kd.R_reads' HO_10.out).2.1); rintro e w' ⟨rfl, ⟨nd, rfl⟩⟩; refine ⟨_, rfl, ?_⟩))
            go_ret
            exact ⟨by first | rfl | (simp [errW_none, errW_some] <;> rfl) | (simp [*, errW_none, errW_some] <;> rfl), by repeat (first | (with_reducible first | exact HB.out | apply below_alloc | apply pw_below_drewN | apply below_drew1 | refine below_set ?_ GE462.out | refine below_set ?_ GE486.out) | exact HB.out)⟩
           ·rw [if_neg c76] at H
            have c76b0 : decide (t514 < 0) = false := decide_eq_false c76
            clear c76
            by_cases c79 : t514 = t512
            ·rw [if_pos c79] at H
             have c79b0 : (t514 == t512) = true := beq_iff_eq.mpr c79
             have c79b1 : (t514 != t512) = false := bne_eq_false_iff_eq.mpr c79
             clear c79
             replace H := Option.bind_eq_some_iff.mp H
             obtain ⟨⟨t515, t516, t517, t518, t519⟩, A800, H⟩ := H
             replace H : ((laws_toPoseS.f kj53 l1).bind fun t522 => ((impl_DeviationsOf.f kj53 t515 t516 t517 t518 t519 t522).bind fun bt525 => ((laws_eqInt64S.f kj53 bt525.1 t475).bind fun t529 => (if t529 = true then (laws_FnExactDeviationsOf.j2 kj53 t513 t512 (bt525.2 != t478)) else (laws_FnExactDeviationsOf.j2 kj53 t513 t512 true))))) = some r := H
             have A80 := Aside0.mk A800
             clear A800
             replace H := Option.bind_eq_some_iff.mp H
             obtain ⟨t522, A810, H⟩ := H
             replace H : ((impl_DeviationsOf.f kj53 t515 t516 t517 t518 t519 t522).bind fun bt525 => ((laws_eqInt64S.f kj53 bt525.1 t475).bind fun t529 => (if t529 = true then (laws_FnExactDeviationsOf.j2 kj53 t513 t512 (bt525.2 != t478)) else (laws_FnExactDeviationsOf.j2 kj53 t513 t512 true)))) = some r := H
             have A81 := Aside0.mk A810
             clear A810
             replace H := Option.bind_eq_some_iff.mp H
             obtain ⟨⟨t525, t528⟩, A820, H⟩ := H
             replace H : ((laws_eqInt64S.f kj53 t525 t475).bind fun t529 => (if t529 = true then (laws_FnExactDeviationsOf.j2 kj53 t513 t512 (t528 != t478)) else (laws_FnExactDeviationsOf.j2 kj53 t513 t512 true))) = some r := H
             have A82 := Aside0.mk A820
             clear A820
             have HC83 := Aside0.mk H
             clear H
             obtain ⟨Ao84, co84, eo84⟩ := Kd.R_slice HO_10.out
             subst eo84
             go_upto_region 32 with (first | ((with_reducible refine gate_callee (f := 23) rfl ?_); refine goesL_ (some 85) rfl rfl Try.func23 (by kernel_rfl) rfl #[.slice Ao84 t490.length co84, .int .i64 1] rfl (by (try simp only [List.map_toArray, List.map_cons, List.map_nil]); first | done | rfl | (simp only [List.length_drop, List.length_take]; rfl)) ?_; (with_reducible refine (laws_markInt64S.calls kj53 (fun k_ => some k_ = (.slice Ao84 t490.length co84 : Value).ownBlock) (.slice Ao84 t490.length co84) t490 1 t512 t513 w _ ?side1 ?side2 A74.out).mono ?_); (case side1 => repeat (first | (with_reducible first | exact HB.out | apply below_alloc | apply pw_below_drewN | apply below_drew1 | refine below_set ?_ GE462.out | refine below_set ?_ GE486.out) | exact HB.out)); (case side2 => exact Kd.R_tight rfl HO_10.out); rintro e w85 ⟨rfl, hy0, hb, hkp⟩; refine ⟨_, rfl, ?_⟩; have n0_ := Aside0.mk (Kd.R_mono (ok' := fun k_ => some k_ ≠ (.slice Ao84 t490.length co84 : Value).ownBlock) (Kd.R_keptB (HO_6.out) hkp (fun k_ hk_ hs_ => (hk_) hs_)) (fun k_ hk_ => hk_.1)); have n1_ := Aside0.mk (Kd.R_reok rfl hy0 (fun k_ e_ => HO_10.out.1 k_ e_)); have n2_ := Aside0.mk (Kd.R_mono (ok' := fun k_ => True) (Kd.R_keptB ((Kd.R_apart' HO_487004.out (Kd.R_typed HO_10.out) (by decide))) hkp (fun k_ hk_ hs_ => (hk_.2) hs_)) (fun k_ hk_ => trivial)); have n3_ := Aside0.mk (blk_kept (by (with_reducible repeat (first | refine blk_drewN ?_ _ | refine blk_drew ?_ | refine blk_alloc ?_ _)); exact BK462.out) hkp (fun hs_ => (fun e_ => (Kd.R_ne HO_10.out BK462.out (by decide)) e_) hs_)); have n4_ := Aside0.mk (blk_kept (by (with_reducible repeat (first | refine blk_drewN ?_ _ | refine blk_drew ?_ | refine blk_alloc ?_ _)); exact BK486.out) hkp (fun hs_ => (fun e_ => (Kd.R_ne HO_10.out BK486.out (by decide)) e_) hs_)); have n5_ := Aside0.mk (hb); clear HO_6; clear HO_10; clear HO_487004; clear BK462; clear BK486; clear HB; have HO_6 := n0_; have HO_10 := n1_; have HO_487004 := n2_; have BK462 := n3_; have BK486 := n4_; have HB := n5_; clear n0_ n1_ n2_ n3_ n4_ n5_; (try clear hb); (try clear hkp); (try clear hy0)) | ((with_reducible refine gate_callee (f := 24) rfl ?_); refine goesL_ (some 88) rfl rfl Try.func24 (by kernel_rfl) rfl #[.slice Ao84 t513.length co84, .int .i64 1] rfl (by (try simp only [List.map_toArray, List.map_cons, List.map_nil]); first | done | (rw [show t513.length = t490.length from (Kd.R_reads' HO_10.out).1.symm] <;> rfl) | rfl | (simp only [List.length_drop, List.length_take]; rfl)) ?_; (with_reducible refine (laws_heldInt64S.calls kj53 _ _ t513 1 t514 _ ?side1 ?side2 A75.out).mono ?_); (case side1 => repeat (first | exact (Kd.R_reads' HO_10.out).2.2 | (with_reducible refine Kd.C_alloc ?_ _) | (with_reducible refine Kd.C_drewN ?_ _) | (with_reducible refine Kd.C_drew ?_))); (case side2 => rw [show t513.length = t490.length from (Kd.R_reads' HO_10.out).1.symm]; exact (Kd.R_reads' HO_10.out).2.1); rintro e w' ⟨rfl, ⟨nd, rfl⟩⟩; refine ⟨_, rfl, ?_⟩; have hnb86 := NB462_486.out; have hnc86 := NB486_462.out; have hcz87_0 : w85.cell? ⟨gb462, 0, none⟩ = some (.int .i64 a0_0) := (blk_cell BK462.out 0).trans rfl; have hcz87_1 : w85.cell? ⟨gb462, 1, none⟩ = some (.int .i64 a0_1) := (blk_cell BK462.out 1).trans rfl; have hcz87_2 : w85.cell? ⟨gb462, 2, none⟩ = some (.int .i64 a0_2) := (blk_cell BK462.out 2).trans rfl; have hcz87_3 : w85.cell? ⟨gb462, 3, none⟩ = some (.int .i64 a0_3) := (blk_cell BK462.out 3).trans rfl; have hcz87_4 : w85.cell? ⟨gb462, 4, none⟩ = some (.slice A0_4 l0_4.length c0_4) := (blk_cell BK462.out 4).trans rfl; have hfz87_0 := blk_frozen BK462.out 0; have hfz87_1 := blk_frozen BK462.out 1; have hfz87_2 := blk_frozen BK462.out 2; have hfz87_3 := blk_frozen BK462.out 3; have hfz87_4 := blk_frozen BK462.out 4) | ((with_reducible refine gate_callee (f := 9) rfl ?_); refine goesL_ (some 96) rfl rfl Try.func9 (by kernel_rfl) rfl #[.agg #[.int .i64 a0_0, .int .i64 a0_1, .int .i64 a0_2, .int .i64 a0_3, .slice A0_4 l0_4.length c0_4]] rfl (by (try simp only [List.map_toArray, List.map_cons, List.map_nil]); first | done | rfl | (simp only [List.length_drop, List.length_take]; rfl)) ?_; (with_reducible refine (laws_toAxis.calls kj53 a0_0 a0_1 a0_2 a0_3 _ _ l0_4 t515 t516 t517 t518 t519 _ ?side1 ?side2 A80.out).mono ?_); (case side1 => repeat (first | exact (Kd.C_below HR0_4.out (by repeat (first | (with_reducible first | exact HB.out | apply below_alloc | apply pw_below_drewN | apply below_drew1 | refine below_set ?_ GE462.out | refine below_set ?_ GE486.out) | exact HB.out))) | (with_reducible refine Kd.C_alloc ?_ _) | (with_reducible refine Kd.C_drewN ?_ _) | (with_reducible refine Kd.C_drew ?_))); (case side2 => exact HC0_4.out); rintro e w88 ⟨v520, rfl, ho0, hb⟩; refine ⟨_, rfl, ?_⟩; have n0_ := Aside0.mk (Kd.R_below (by (with_reducible repeat (first | apply Kd.R_alloc | apply Kd.R_drewN | apply Kd.R_drew)); exact HO_6.out) hb); have n1_ := Aside0.mk (Kd.R_below (by (with_reducible repeat (first | apply Kd.R_alloc | apply Kd.R_drewN | apply Kd.R_drew)); exact HO_10.out) hb); have n2_ := Aside0.mk (Kd.R_elder' (by (with_reducible repeat (first | apply Kd.R_alloc | apply Kd.R_drewN | apply Kd.R_drew)); exact HO_487004.out) (Kd.R_base ho0) hb); have n3_ := Aside0.mk (Kd.R_lower (Kd.R_new' ho0 (Kd.R_lt (by (with_reducible repeat (first | apply Kd.R_alloc | apply Kd.R_drewN | apply Kd.R_drew)); exact HO_487004.out))) (below_size (by repeat (first | (with_reducible first | exact HB.out | apply below_alloc | apply pw_below_drewN | apply below_drew1 | refine below_set ?_ GE462.out | refine below_set ?_ GE486.out) | exact HB.out)))); have n4_ := Aside0.mk (blk_below (g := gb462) (o := .cells #[.int .i64 a0_0, .int .i64 a0_1, .int .i64 a0_2, .int .i64 a0_3, .slice A0_4 l0_4.length c0_4] 26 (0, 0)) (by (with_reducible repeat (first | refine blk_drewN ?_ _ | refine blk_drew ?_ | refine blk_alloc ?_ _)); exact BK462.out) hb); have n5_ := Aside0.mk (blk_below (g := gb486) (o := .cells #[.int .i64 t479, .int .i64 t480, .int .i64 t481, .int .i64 t482, .slice Ao34 t508.length co34] 31 (0, 0)) (by (with_reducible repeat (first | refine blk_drewN ?_ _ | refine blk_drew ?_ | refine blk_alloc ?_ _)); exact BK486.out) hb); have n6_ := Aside0.mk (below_step (by repeat (first | (with_reducible first | exact HB.out | apply below_alloc | apply pw_below_drewN | apply below_drew1 | refine below_set ?_ GE462.out | refine below_set ?_ GE486.out) | exact HB.out)) hb); clear HO_6; clear HO_10; clear HO_487004; clear BK462; clear BK486; clear HB; have HO_6 := n0_; have HO_10 := n1_; have HO_487004 := n2_; have HO521 := n3_; have BK462 := n4_; have BK486 := n5_; have HB := n6_; clear n0_ n1_ n2_ n3_ n4_ n5_ n6_; (try clear hb); (try clear hb2); (try clear hk); (try clear hi); (try clear ho0)) | ((with_reducible refine gate_callee (f := 16) rfl ?_); refine goesL_ (some 98) rfl rfl Try.func16 (by kernel_rfl) rfl #[.slice A1 l1.length c1] rfl (by (try simp only [List.map_toArray, List.map_cons, List.map_nil]); first | done | rfl | (simp only [List.length_drop, List.length_take]; rfl)) ?_; (with_reducible refine (laws_toPoseS.calls kj53 _ _ l1 t522 _ ?side1 ?side2 A81.out).mono ?_); (case side1 => repeat (first | exact (Kd.C_below HR1.out HB.out) | (with_reducible refine Kd.C_alloc ?_ _) | (with_reducible refine Kd.C_drewN ?_ _) | (with_reducible refine Kd.C_drew ?_))); (case side2 => exact HC1.out); rintro e w89 ⟨v523, rfl, ho0, hb⟩; refine ⟨_, rfl, ?_⟩; have n0_ := Aside0.mk (Kd.R_below (by (with_reducible repeat (first | apply Kd.R_alloc | apply Kd.R_drewN | apply Kd.R_drew)); exact HO_6.out) hb); have n1_ := Aside0.mk (Kd.R_below (by (with_reducible repeat (first | apply Kd.R_alloc | apply Kd.R_drewN | apply Kd.R_drew)); exact HO_10.out) hb); have n2_ := Aside0.mk (Kd.R_below (by (with_reducible repeat (first | apply Kd.R_alloc | apply Kd.R_drewN | apply Kd.R_drew)); exact HO_487004.out) hb); have n3_ := Aside0.mk (Kd.R_below (by (with_reducible repeat (first | apply Kd.R_alloc | apply Kd.R_drewN | apply Kd.R_drew)); exact HO521.out) hb); have n4_ := Aside0.mk (Kd.R_lower ho0 (below_size (by repeat (first | (with_reducible first | exact HB.out | apply below_alloc | apply pw_below_drewN | apply below_drew1 | refine below_set ?_ GE462.out | refine below_set ?_ GE486.out) | exact HB.out)))); have n5_ := Aside0.mk (blk_below (g := gb462) (o := .cells #[.int .i64 a0_0, .int .i64 a0_1, .int .i64 a0_2, .int .i64 a0_3, .slice A0_4 l0_4.length c0_4] 26 (0, 0)) (by (with_reducible repeat (first | refine blk_drewN ?_ _ | refine blk_drew ?_ | refine blk_alloc ?_ _)); exact BK462.out) hb); have n6_ := Aside0.mk (blk_below (g := gb486) (o := .cells #[.int .i64 t479, .int .i64 t480, .int .i64 t481, .int .i64 t482, .slice Ao34 t508.length co34] 31 (0, 0)) (by (with_reducible repeat (first | refine blk_drewN ?_ _ | refine blk_drew ?_ | refine blk_alloc ?_ _)); exact BK486.out) hb); have n7_ := Aside0.mk (below_step (by repeat (first | (with_reducible first | exact HB.out | apply below_alloc | apply pw_below_drewN | apply below_drew1 | refine below_set ?_ GE462.out | refine below_set ?_ GE486.out) | exact HB.out)) hb); clear HO_6; clear HO_10; clear HO_487004; clear HO521; clear BK462; clear BK486; clear HB; have HO_6 := n0_; have HO_10 := n1_; have HO_487004 := n2_; have HO521 := n3_; have HO524 := n4_; have BK462 := n5_; have BK486 := n6_; have HB := n7_; clear n0_ n1_ n2_ n3_ n4_ n5_ n6_ n7_; (try clear hb); (try clear hb2); (try clear hk); (try clear hi); (try clear ho0); obtain ⟨Ao90, co90, eo90⟩ := Kd.R_slice HO521.out; subst eo90; obtain ⟨Ao91, co91, eo91⟩ := Kd.R_slice HO524.out; subst eo91) | ((with_reducible refine gate_callee (f := 21) rfl ?_); refine goesL_ (some 99) rfl rfl Try.func21 (by kernel_rfl) rfl #[.agg #[.int .i64 t515, .int .i64 t516, .int .i64 t517, .int .i64 t518, .slice Ao90 t519.length co90], .slice Ao91 t522.length co91] rfl (by (try simp only [List.map_toArray, List.map_cons, List.map_nil]); first | done | rfl | (simp only [List.length_drop, List.length_take]; rfl)) ?_; (with_reducible refine (impl_DeviationsOf.calls kj53 t515 t516 t517 t518 _ _ t519 _ _ t522 t525 t528 _ ?side1 ?side2 ?side3 ?side4 A82.out).mono ?_); (case side1 => repeat (first | exact (Kd.R_reads' HO521.out).2.2 | (with_reducible refine Kd.C_alloc ?_ _) | (with_reducible refine Kd.C_drewN ?_ _) | (with_reducible refine Kd.C_drew ?_))); (case side2 => exact (Kd.R_reads' HO521.out).2.1); (case side3 => repeat (first | exact (Kd.R_reads' HO524.out).2.2 | (with_reducible refine Kd.C_alloc ?_ _) | (with_reducible refine Kd.C_drewN ?_ _) | (with_reducible refine Kd.C_drew ?_))); (case side4 => exact (Kd.R_reads' HO524.out).2.1); rintro e w92 ⟨v526, rfl, ho0, hb⟩; refine ⟨_, rfl, ?_⟩; have n0_ := Aside0.mk (Kd.R_elder' (by (with_reducible repeat (first | apply Kd.R_alloc | apply Kd.R_drewN | apply Kd.R_drew)); exact HO_6.out) (Kd.R_base ho0) hb); have n1_ := Aside0.mk (Kd.R_elder' (by (with_reducible repeat (first | apply Kd.R_alloc | apply Kd.R_drewN | apply Kd.R_drew)); exact HO_10.out) (Kd.R_base ho0) hb); have n2_ := Aside0.mk (Kd.R_below (by (with_reducible repeat (first | apply Kd.R_alloc | apply Kd.R_drewN | apply Kd.R_drew)); exact HO_487004.out) hb); have n3_ := Aside0.mk (Kd.R_below (by (with_reducible repeat (first | apply Kd.R_alloc | apply Kd.R_drewN | apply Kd.R_drew)); exact HO521.out) hb); have n4_ := Aside0.mk (Kd.R_below (by (with_reducible repeat (first | apply Kd.R_alloc | apply Kd.R_drewN | apply Kd.R_drew)); exact HO524.out) hb); have n5_ := Aside0.mk (Kd.R_lower (Kd.R_new' (Kd.R_new' ho0 (Kd.R_lt (by (with_reducible repeat (first | apply Kd.R_alloc | apply Kd.R_drewN | apply Kd.R_drew)); exact HO_6.out))) (Kd.R_lt (by (with_reducible repeat (first | apply Kd.R_alloc | apply Kd.R_drewN | apply Kd.R_drew)); exact HO_10.out))) (below_size (by repeat (first | (with_reducible first | exact HB.out | apply below_alloc | apply pw_below_drewN | apply below_drew1 | refine below_set ?_ GE462.out | refine below_set ?_ GE486.out) | exact HB.out)))); have n6_ := Aside0.mk (blk_below (g := gb462) (o := .cells #[.int .i64 a0_0, .int .i64 a0_1, .int .i64 a0_2, .int .i64 a0_3, .slice A0_4 l0_4.length c0_4] 26 (0, 0)) (by (with_reducible repeat (first | refine blk_drewN ?_ _ | refine blk_drew ?_ | refine blk_alloc ?_ _)); exact BK462.out) hb); have n7_ := Aside0.mk (blk_below (g := gb486) (o := .cells #[.int .i64 t479, .int .i64 t480, .int .i64 t481, .int .i64 t482, .slice Ao34 t508.length co34] 31 (0, 0)) (by (with_reducible repeat (first | refine blk_drewN ?_ _ | refine blk_drew ?_ | refine blk_alloc ?_ _)); exact BK486.out) hb); have n8_ := Aside0.mk (below_step (by repeat (first | (with_reducible first | exact HB.out | apply below_alloc | apply pw_below_drewN | apply below_drew1 | refine below_set ?_ GE462.out | refine below_set ?_ GE486.out) | exact HB.out)) hb); clear HO_6; clear HO_10; clear HO_487004; clear HO521; clear HO524; clear BK462; clear BK486; clear HB; have HO_6 := n0_; have HO_10 := n1_; have HO_487004 := n2_; have HO521 := n3_; have HO524 := n4_; have HO527 := n5_; have BK462 := n6_; have BK486 := n7_; have HB := n8_; clear n0_ n1_ n2_ n3_ n4_ n5_ n6_ n7_ n8_; (try clear hb); (try clear hb2); (try clear hk); (try clear hi); (try clear ho0)))
             (try simp only [Act.put, List.setIfInBounds_toArray, List.set_cons_zero, List.set_cons_succ])
             go_cut [110] (fun v110 wc => ∃ (kq : Nat) (x110_82 : Bool), v110 = .bool x110_82 ∧ Aside0 (laws_FnExactDeviationsOf.j2 kq t513 t512 x110_82 = some r) ∧ Aside0 (kq ≤ kj53) ∧ Aside0 (Kd.R (Kd.int .i64) 2 wc w.heap.size (fun _ => True) (.slice Ao84 t490.length co84) t513) ∧ Aside0 (Kd.R k65 65 wc w.heap.size (fun _ => True) (.slice Ao34 t508.length co34) t508) ∧ Aside0 (wc.heap[gb462]? = some (.cells #[.int .i64 a0_0, .int .i64 a0_1, .int .i64 a0_2, .int .i64 a0_3, (.slice A0_4 l0_4.length c0_4)] 26 (0, 0))) ∧ Aside0 (wc.heap[gb486]? = some (.cells #[.int .i64 t479, .int .i64 t480, .int .i64 t481, .int .i64 t482, (.slice Ao34 t508.length co34)] 31 (0, 0))) ∧ Aside0 (Below w.heap.size w wc))
             case first =>
              have H := HC83.out
              clear HC83
              replace H := Option.bind_eq_some_iff.mp H
              obtain ⟨t529, A930, H⟩ := H
              replace H : (if t529 = true then (laws_FnExactDeviationsOf.j2 kj53 t513 t512 (t528 != t478)) else (laws_FnExactDeviationsOf.j2 kj53 t513 t512 true)) = some r := H
              have A93 := Aside0.mk A930
              clear A930
              by_cases c94 : t529 = true
              ·subst c94
               have H1 : (laws_FnExactDeviationsOf.j2 kj53 t513 t512 (t528 != t478)) = some r := by rw [if_pos rfl] at H; exact H
               clear H
               have H := H1
               clear H1
               have H' := Aside0.mk H
               clear H
               obtain ⟨Ao95, co95, eo95⟩ := Kd.R_slice HO527.out
               subst eo95
               obtain ⟨Ao96, co96, eo96⟩ := Kd.R_slice HO_6.out
               subst eo96
               go_wp2_with (first | ((with_reducible refine gate_callee (f := 22) rfl ?_); refine goesL_ (some 104) rfl rfl Try.func22 (by kernel_rfl) rfl #[.slice Ao95 t525.length co95, .slice Ao96 t475.length co96] rfl (by (try simp only [List.map_toArray, List.map_cons, List.map_nil]); first | done | rfl | (simp only [List.length_drop, List.length_take]; rfl)) ?_; (with_reducible refine (laws_eqInt64S.calls kj53 _ _ t525 _ _ t475 true _ ?side1 ?side2 ?side3 ?side4 A93.out).mono ?_); (case side1 => repeat (first | exact (Kd.R_reads' HO527.out).2.2 | (with_reducible refine Kd.C_alloc ?_ _) | (with_reducible refine Kd.C_drewN ?_ _) | (with_reducible refine Kd.C_drew ?_))); (case side2 => exact (Kd.R_reads' HO527.out).2.1); (case side3 => repeat (first | exact (Kd.R_reads' HO_6.out).2.2 | (with_reducible refine Kd.C_alloc ?_ _) | (with_reducible refine Kd.C_drewN ?_ _) | (with_reducible refine Kd.C_drew ?_))); (case side4 => exact (Kd.R_reads' HO_6.out).2.1); rintro e w' ⟨rfl, ⟨nd, rfl⟩⟩; refine ⟨_, rfl, ?_⟩))
               go_meet
               case rel => exact ⟨_, ((t528 != t478)), (by first | rfl | (simp; done) | (simp [*]; done)), H', ⟨by have := HJ18.out; have := HJ53.out; first | omega | exact Nat.le_refl _⟩, ⟨by (try simp only [hl487004_53]); (with_reducible repeat (first | apply Kd.R_alloc | apply Kd.R_drewN | apply Kd.R_drew)); exact Kd.R_mono HO_10.out (fun _ hk => trivial)⟩, ⟨by (try simp only [hl487004_53]); (with_reducible repeat (first | apply Kd.R_alloc | apply Kd.R_drewN | apply Kd.R_drew)); exact Kd.R_mono HO_487004.out (fun _ hk => trivial)⟩, ⟨by (try simp only [hl487004_53]); (with_reducible repeat (first | refine blk_drewN ?_ _ | refine blk_drew ?_ | refine blk_alloc ?_ _)); exact BK462.out⟩, ⟨by (try simp only [hl487004_53]); (with_reducible repeat (first | refine blk_drewN ?_ _ | refine blk_drew ?_ | refine blk_alloc ?_ _)); exact BK486.out⟩, ⟨by repeat (first | (with_reducible first | exact HB.out | apply below_alloc | apply pw_below_drewN | apply below_drew1 | refine below_set ?_ GE462.out | refine below_set ?_ GE486.out) | exact HB.out)⟩⟩
              ·replace c94 := Bool.eq_false_iff.mpr c94
               subst c94
               have H1 : (laws_FnExactDeviationsOf.j2 kj53 t513 t512 true) = some r := by rw [if_neg (show ¬ (false = true) by decide)] at H; exact H
               clear H
               have H := H1
               clear H1
               have H' := Aside0.mk H
               clear H
               obtain ⟨Ao97, co97, eo97⟩ := Kd.R_slice HO527.out
               subst eo97
               obtain ⟨Ao98, co98, eo98⟩ := Kd.R_slice HO_6.out
               subst eo98
               go_wp2_with (first | ((with_reducible refine gate_callee (f := 22) rfl ?_); refine goesL_ (some 104) rfl rfl Try.func22 (by kernel_rfl) rfl #[.slice Ao97 t525.length co97, .slice Ao98 t475.length co98] rfl (by (try simp only [List.map_toArray, List.map_cons, List.map_nil]); first | done | rfl | (simp only [List.length_drop, List.length_take]; rfl)) ?_; (with_reducible refine (laws_eqInt64S.calls kj53 _ _ t525 _ _ t475 false _ ?side1 ?side2 ?side3 ?side4 A93.out).mono ?_); (case side1 => repeat (first | exact (Kd.R_reads' HO527.out).2.2 | (with_reducible refine Kd.C_alloc ?_ _) | (with_reducible refine Kd.C_drewN ?_ _) | (with_reducible refine Kd.C_drew ?_))); (case side2 => exact (Kd.R_reads' HO527.out).2.1); (case side3 => repeat (first | exact (Kd.R_reads' HO_6.out).2.2 | (with_reducible refine Kd.C_alloc ?_ _) | (with_reducible refine Kd.C_drewN ?_ _) | (with_reducible refine Kd.C_drew ?_))); (case side4 => exact (Kd.R_reads' HO_6.out).2.1); rintro e w' ⟨rfl, ⟨nd, rfl⟩⟩; refine ⟨_, rfl, ?_⟩))
               go_meet
               case rel => exact ⟨_, (true), (by first | rfl | (simp; done) | (simp [*]; done)), H', ⟨by have := HJ18.out; have := HJ53.out; first | omega | exact Nat.le_refl _⟩, ⟨by (try simp only [hl487004_53]); (with_reducible repeat (first | apply Kd.R_alloc | apply Kd.R_drewN | apply Kd.R_drew)); exact Kd.R_mono HO_10.out (fun _ hk => trivial)⟩, ⟨by (try simp only [hl487004_53]); (with_reducible repeat (first | apply Kd.R_alloc | apply Kd.R_drewN | apply Kd.R_drew)); exact Kd.R_mono HO_487004.out (fun _ hk => trivial)⟩, ⟨by (try simp only [hl487004_53]); (with_reducible repeat (first | refine blk_drewN ?_ _ | refine blk_drew ?_ | refine blk_alloc ?_ _)); exact BK462.out⟩, ⟨by (try simp only [hl487004_53]); (with_reducible repeat (first | refine blk_drewN ?_ _ | refine blk_drew ?_ | refine blk_alloc ?_ _)); exact BK486.out⟩, ⟨by repeat (first | (with_reducible first | exact HB.out | apply below_alloc | apply pw_below_drewN | apply below_drew1 | refine below_set ?_ GE462.out | refine below_set ?_ GE486.out) | exact HB.out)⟩⟩
             case rest =>
              clear HC83
              try clear c1
              try clear c2
              try clear p2
              try clear c3
              try clear c4
              try clear c4b0
              try clear c5
              try clear c6
              try clear c7
              try clear c8
              try clear c9
              try clear c9b0
              try clear c11
              try clear c12
              try clear c14
              try clear c16
              try clear c18
              try clear c19
              try clear c20
              try clear c21
              try clear c22
              try clear c23
              try clear c24
              try clear c32
              try clear c40
              try clear c45
              try clear c48
              try clear c51
              try clear c62
              try clear c66
              try clear c66b0
              try clear c68
              try clear c73
              try clear c76
              try clear c76b0
              try clear c79
              try clear c79b0
              try clear c79b1
              try clear c86
              try clear c94
              try clear hcz11_0
              try clear hcz11_1
              try clear hcz11_2
              try clear hcz11_3
              try clear hcz11_4
              try clear hcz21_0
              try clear hcz21_1
              try clear hcz21_2
              try clear hcz21_3
              try clear hcz21_4
              try clear hcz23_0
              try clear hcz23_1
              try clear hcz23_2
              try clear hcz23_3
              try clear hcz23_4
              try clear hcz29_0
              try clear hcz29_1
              try clear hcz29_2
              try clear hcz29_3
              try clear hcz29_4
              try clear hcz33_0
              try clear hcz33_1
              try clear hcz33_2
              try clear hcz33_3
              try clear hcz33_4
              try clear hcz36_0
              try clear hcz36_1
              try clear hcz36_2
              try clear hcz36_3
              try clear hcz36_4
              try clear hcz63_0
              try clear hcz63_1
              try clear hcz63_2
              try clear hcz63_3
              try clear hcz63_4
              try clear hcz6_0
              try clear hcz6_1
              try clear hcz6_2
              try clear hcz6_3
              try clear hcz6_4
              try clear hcz87_0
              try clear hcz87_1
              try clear hcz87_2
              try clear hcz87_3
              try clear hcz87_4
              try clear hfz11_0
              try clear hfz11_1
              try clear hfz11_2
              try clear hfz11_3
              try clear hfz11_4
              try clear hfz21_0
              try clear hfz21_1
              try clear hfz21_2
              try clear hfz21_3
              try clear hfz21_4
              try clear hfz23_0
              try clear hfz23_1
              try clear hfz23_2
              try clear hfz23_3
              try clear hfz23_4
              try clear hfz29_0
              try clear hfz29_1
              try clear hfz29_2
              try clear hfz29_3
              try clear hfz29_4
              try clear hfz33_0
              try clear hfz33_1
              try clear hfz33_2
              try clear hfz33_3
              try clear hfz33_4
              try clear hfz36_0
              try clear hfz36_1
              try clear hfz36_2
              try clear hfz36_3
              try clear hfz36_4
              try clear hfz63_0
              try clear hfz63_1
              try clear hfz63_2
              try clear hfz63_3
              try clear hfz63_4
              try clear hfz6_0
              try clear hfz6_1
              try clear hfz6_2
              try clear hfz6_3
              try clear hfz6_4
              try clear hfz87_0
              try clear hfz87_1
              try clear hfz87_2
              try clear hfz87_3
              try clear hfz87_4
              try clear p2
              obtain ⟨kq, x110_82, rfl, HA, HJ82, HO_10, HO_487004, BK462, BK486, HB⟩ := hcut
              have hl10_82 := (Kd.R_reads' HO_10.out).1
              rw [hl10_82] at HO_10
              (try simp only [hl10_82])
              (try simp only [hl10_82] at BK462)
              (try simp only [hl10_82] at BK486)
              (try simp only [hl10_82] at HO_487004)
              cases kq with
              | zero => exact absurd HA.out (by simp [laws_FnExactDeviationsOf.j2])
              | succ kj82 =>
               have H := HA.out
               clear HA
               simp only [laws_FnExactDeviationsOf.j2] at H
               by_cases c99 : x110_82 = true
               ·subst c99
                have H1 : (some false) = some r := by rw [if_pos rfl] at H; exact H
                clear H
                have H := H1
                clear H1
                obtain rfl := Option.some.inj H
                go_wp2
                go_ret
                exact ⟨by first | rfl | (simp [errW_none, errW_some] <;> rfl) | (simp [*, errW_none, errW_some] <;> rfl), by repeat (first | (with_reducible first | exact HB.out | apply below_alloc | apply pw_below_drewN | apply below_drew1 | refine below_set ?_ GE462.out | refine below_set ?_ GE486.out) | exact HB.out)⟩
               ·replace c99 := Bool.eq_false_iff.mpr c99
                subst c99
                have H1 : ((laws_heldInt64S.f kj82 t513 1).bind fun t530 => (if t530 < 0 then (some false) else (if t530 = t512 then (some true) else (some false)))) = some r := by rw [if_neg (show ¬ (false = true) by decide)] at H; exact H
                clear H
                have H := H1
                clear H1
                replace H := Option.bind_eq_some_iff.mp H
                obtain ⟨t530, A1000, H⟩ := H
                replace H : (if t530 < 0 then (some false) else (if t530 = t512 then (some true) else (some false))) = some r := H
                have A100 := Aside0.mk A1000
                clear A1000
                by_cases c101 : t530 < 0
                ·rw [if_pos c101] at H
                 have c101b0 : decide (t530 < 0) = true := decide_eq_true c101
                 clear c101
                 obtain rfl := Option.some.inj H
                 go_wp2_with (first | ((with_reducible refine gate_callee (f := 24) rfl ?_); refine goesL_ (some 113) rfl rfl Try.func24 (by kernel_rfl) rfl #[.slice Ao84 t513.length co84, .int .i64 1] rfl (by (try simp only [List.map_toArray, List.map_cons, List.map_nil]); first | done | rfl | (simp only [List.length_drop, List.length_take]; rfl)) ?_; (with_reducible refine (laws_heldInt64S.calls kj82 _ _ t513 1 t530 _ ?side1 ?side2 A100.out).mono ?_); (case side1 => repeat (first | exact (Kd.R_reads' HO_10.out).2.2 | (with_reducible refine Kd.C_alloc ?_ _) | (with_reducible refine Kd.C_drewN ?_ _) | (with_reducible refine Kd.C_drew ?_))); (case side2 => exact (Kd.R_reads' HO_10.out).2.1); rintro e w' ⟨rfl, ⟨nd, rfl⟩⟩; refine ⟨_, rfl, ?_⟩))
                 go_ret
                 exact ⟨by first | rfl | (simp [errW_none, errW_some] <;> rfl) | (simp [*, errW_none, errW_some] <;> rfl), by repeat (first | (with_reducible first | exact HB.out | apply below_alloc | apply pw_below_drewN | apply below_drew1 | refine below_set ?_ GE462.out | refine below_set ?_ GE486.out) | exact HB.out)⟩
                ·rw [if_neg c101] at H
                 have c101b0 : decide (t530 < 0) = false := decide_eq_false c101
                 clear c101
                 by_cases c102 : t530 = t512
                 ·rw [if_pos c102] at H
                  have c102b0 : (t530 == t512) = true := beq_iff_eq.mpr c102
                  have c102b1 : (t530 != t512) = false := bne_eq_false_iff_eq.mpr c102
                  clear c102
                  obtain rfl := Option.some.inj H
                  go_wp2_with (first | ((with_reducible refine gate_callee (f := 24) rfl ?_); refine goesL_ (some 113) rfl rfl Try.func24 (by kernel_rfl) rfl #[.slice Ao84 t513.length co84, .int .i64 1] rfl (by (try simp only [List.map_toArray, List.map_cons, List.map_nil]); first | done | rfl | (simp only [List.length_drop, List.length_take]; rfl)) ?_; (with_reducible refine (laws_heldInt64S.calls kj82 _ _ t513 1 t530 _ ?side1 ?side2 A100.out).mono ?_); (case side1 => repeat (first | exact (Kd.R_reads' HO_10.out).2.2 | (with_reducible refine Kd.C_alloc ?_ _) | (with_reducible refine Kd.C_drewN ?_ _) | (with_reducible refine Kd.C_drew ?_))); (case side2 => exact (Kd.R_reads' HO_10.out).2.1); rintro e w' ⟨rfl, ⟨nd, rfl⟩⟩; refine ⟨_, rfl, ?_⟩))
                  go_ret
                  exact ⟨by first | rfl | (simp [errW_none, errW_some] <;> rfl) | (simp [*, errW_none, errW_some] <;> rfl), by repeat (first | (with_reducible first | exact HB.out | apply below_alloc | apply pw_below_drewN | apply below_drew1 | refine below_set ?_ GE462.out | refine below_set ?_ GE486.out) | exact HB.out)⟩
                 ·rw [if_neg c102] at H
                  have c102b0 : (t530 == t512) = false := beq_eq_false_iff_ne.mpr c102
                  have c102b1 : (t530 != t512) = true := bne_iff_ne.mpr c102
                  obtain rfl := Option.some.inj H
                  go_wp2_with (first | ((with_reducible refine gate_callee (f := 24) rfl ?_); refine goesL_ (some 113) rfl rfl Try.func24 (by kernel_rfl) rfl #[.slice Ao84 t513.length co84, .int .i64 1] rfl (by (try simp only [List.map_toArray, List.map_cons, List.map_nil]); first | done | rfl | (simp only [List.length_drop, List.length_take]; rfl)) ?_; (with_reducible refine (laws_heldInt64S.calls kj82 _ _ t513 1 t530 _ ?side1 ?side2 A100.out).mono ?_); (case side1 => repeat (first | exact (Kd.R_reads' HO_10.out).2.2 | (with_reducible refine Kd.C_alloc ?_ _) | (with_reducible refine Kd.C_drewN ?_ _) | (with_reducible refine Kd.C_drew ?_))); (case side2 => exact (Kd.R_reads' HO_10.out).2.1); rintro e w' ⟨rfl, ⟨nd, rfl⟩⟩; refine ⟨_, rfl, ?_⟩))
                  go_ret
                  exact ⟨by first | rfl | (simp [errW_none, errW_some] <;> rfl) | (simp [*, errW_none, errW_some] <;> rfl), by repeat (first | (with_reducible first | exact HB.out | apply below_alloc | apply pw_below_drewN | apply below_drew1 | refine below_set ?_ GE462.out | refine below_set ?_ GE486.out) | exact HB.out)⟩
            ·rw [if_neg c79] at H
             have c79b0 : (t514 == t512) = false := beq_eq_false_iff_ne.mpr c79
             have c79b1 : (t514 != t512) = true := bne_iff_ne.mpr c79
             obtain rfl := Option.some.inj H
             obtain ⟨Ao103, co103, eo103⟩ := Kd.R_slice HO_10.out
             subst eo103
             go_wp2_with (first | ((with_reducible refine gate_callee (f := 23) rfl ?_); refine goesL_ (some 85) rfl rfl Try.func23 (by kernel_rfl) rfl #[.slice Ao103 t490.length co103, .int .i64 1] rfl (by (try simp only [List.map_toArray, List.map_cons, List.map_nil]); first | done | rfl | (simp only [List.length_drop, List.length_take]; rfl)) ?_; (with_reducible refine (laws_markInt64S.calls kj53 (fun k_ => some k_ = (.slice Ao103 t490.length co103 : Value).ownBlock) (.slice Ao103 t490.length co103) t490 1 t512 t513 w _ ?side1 ?side2 A74.out).mono ?_); (case side1 => repeat (first | (with_reducible first | exact HB.out | apply below_alloc | apply pw_below_drewN | apply below_drew1 | refine below_set ?_ GE462.out | refine below_set ?_ GE486.out) | exact HB.out)); (case side2 => exact Kd.R_tight rfl HO_10.out); rintro e w104 ⟨rfl, hy0, hb, hkp⟩; refine ⟨_, rfl, ?_⟩; have n0_ := Aside0.mk (Kd.R_mono (ok' := fun k_ => some k_ ≠ (.slice Ao103 t490.length co103 : Value).ownBlock) (Kd.R_keptB (HO_6.out) hkp (fun k_ hk_ hs_ => (hk_) hs_)) (fun k_ hk_ => hk_.1)); have n1_ := Aside0.mk (Kd.R_reok rfl hy0 (fun k_ e_ => HO_10.out.1 k_ e_)); have n2_ := Aside0.mk (Kd.R_mono (ok' := fun k_ => True) (Kd.R_keptB ((Kd.R_apart' HO_487004.out (Kd.R_typed HO_10.out) (by decide))) hkp (fun k_ hk_ hs_ => (hk_.2) hs_)) (fun k_ hk_ => trivial)); have n3_ := Aside0.mk (blk_kept (by (with_reducible repeat (first | refine blk_drewN ?_ _ | refine blk_drew ?_ | refine blk_alloc ?_ _)); exact BK462.out) hkp (fun hs_ => (fun e_ => (Kd.R_ne HO_10.out BK462.out (by decide)) e_) hs_)); have n4_ := Aside0.mk (blk_kept (by (with_reducible repeat (first | refine blk_drewN ?_ _ | refine blk_drew ?_ | refine blk_alloc ?_ _)); exact BK486.out) hkp (fun hs_ => (fun e_ => (Kd.R_ne HO_10.out BK486.out (by decide)) e_) hs_)); have n5_ := Aside0.mk (hb); clear HO_6; clear HO_10; clear HO_487004; clear BK462; clear BK486; clear HB; have HO_6 := n0_; have HO_10 := n1_; have HO_487004 := n2_; have BK462 := n3_; have BK486 := n4_; have HB := n5_; clear n0_ n1_ n2_ n3_ n4_ n5_; (try clear hb); (try clear hkp); (try clear hy0)) | ((with_reducible refine gate_callee (f := 24) rfl ?_); refine goesL_ (some 88) rfl rfl Try.func24 (by kernel_rfl) rfl #[.slice Ao103 t513.length co103, .int .i64 1] rfl (by (try simp only [List.map_toArray, List.map_cons, List.map_nil]); first | done | (rw [show t513.length = t490.length from (Kd.R_reads' HO_10.out).1.symm] <;> rfl) | rfl | (simp only [List.length_drop, List.length_take]; rfl)) ?_; (with_reducible refine (laws_heldInt64S.calls kj53 _ _ t513 1 t514 _ ?side1 ?side2 A75.out).mono ?_); (case side1 => repeat (first | exact (Kd.R_reads' HO_10.out).2.2 | (with_reducible refine Kd.C_alloc ?_ _) | (with_reducible refine Kd.C_drewN ?_ _) | (with_reducible refine Kd.C_drew ?_))); (case side2 => rw [show t513.length = t490.length from (Kd.R_reads' HO_10.out).1.symm]; exact (Kd.R_reads' HO_10.out).2.1); rintro e w' ⟨rfl, ⟨nd, rfl⟩⟩; refine ⟨_, rfl, ?_⟩))
             go_ret
             exact ⟨by first | rfl | (simp [errW_none, errW_some] <;> rfl) | (simp [*, errW_none, errW_some] <;> rfl), by repeat (first | (with_reducible first | exact HB.out | apply below_alloc | apply pw_below_drewN | apply below_drew1 | refine below_set ?_ GE462.out | refine below_set ?_ GE486.out) | exact HB.out)⟩
       ·replace c51 := Bool.eq_false_iff.mpr c51
        subst c51
        have H1 : (some false) = some r := by rw [if_neg (show ¬ (false = true) by decide)] at H; exact H
        clear H
        have H := H1
        clear H1
        obtain rfl := Option.some.inj H
        try go_wp2
        have n0_ := Aside0.mk (Kd.R_drew HO_6.out)
        have n1_ := Aside0.mk (Kd.R_drew HO_9.out)
        have n2_ := Aside0.mk (Kd.R_drew HO_10.out)
        have n3_ := Aside0.mk (Kd.R_drew HO_487004.out)
        have n4_ := Aside0.mk (blk_drew BK462.out)
        have n5_ := Aside0.mk (blk_drew BK486.out)
        have n6_ := Aside0.mk (below_drew1 HB.out)
        clear HO_6
        clear HO_9
        clear HO_10
        clear HO_487004
        clear BK462
        clear BK486
        clear HB
        have HO_6 := n0_
        have HO_9 := n1_
        have HO_10 := n2_
        have HO_487004 := n3_
        have BK462 := n4_
        have BK486 := n5_
        have HB := n6_
        clear n0_ n1_ n2_ n3_ n4_ n5_ n6_
        refine start_ (n := 5) (S := fun w' => w'.cell? ⟨gb486, 0, none⟩ = some (.int .i64 t479) ∧ w'.cell? ⟨gb486, 1, none⟩ = some (.int .i64 t480) ∧ w'.cell? ⟨gb486, 2, none⟩ = some (.int .i64 t481) ∧ w'.cell? ⟨gb486, 3, none⟩ = some (.int .i64 t482) ∧ w'.cell? ⟨gb486, 4, none⟩ = some (.slice Ao34 t483.length co34) ∧ w'.cell? ⟨gb462, 0, none⟩ = some (.int .i64 a0_0) ∧ w'.cell? ⟨gb462, 1, none⟩ = some (.int .i64 a0_1) ∧ w'.cell? ⟨gb462, 2, none⟩ = some (.int .i64 a0_2) ∧ w'.cell? ⟨gb462, 3, none⟩ = some (.int .i64 a0_3) ∧ w'.cell? ⟨gb462, 4, none⟩ = some (.slice A0_4 l0_4.length c0_4)) (ds := []) #[false, false, false, false, false] (by kernel_rfl) rfl rfl ⟨(blk_cell BK486.out 0).trans rfl, (blk_cell BK486.out 1).trans rfl, (blk_cell BK486.out 2).trans rfl, (blk_cell BK486.out 3).trans rfl, (blk_cell BK486.out 4).trans rfl, (blk_cell BK462.out 0).trans rfl, (blk_cell BK462.out 1).trans rfl, (blk_cell BK462.out 2).trans rfl, (blk_cell BK462.out 3).trans rfl, (blk_cell BK462.out 4).trans rfl⟩ (fun hHeld => ?_)
        generalize wc.drew = w105 at HO_6 HO_9 HO_10 HO_487004 BK462 BK486 HB hHeld ⊢
        refine take_ (i := 0) (N := some 54) (v := ?_) (a' := ?_) #[true, false, false, false, false] rfl rfl (by kernel_rfl) (fun _ _ _ h => h) (Or.inl ⟨by rfl, ?_⟩) hHeld ?_ ?_
        rotate_left
        ·rintro w' ⟨s0, s1, s2, s3, s4, s5, s6, s7, s8, s9⟩
         go_simp
         with_reducible rfl
        rotate_left
        ·simp only [Act.put, List.setIfInBounds_toArray, List.set_cons_zero, List.set_cons_succ, i64_w, i32_w]
         rfl
        refine take_ (i := 1) (N := some 55) (v := ?_) (a' := ?_) #[true, true, false, false, false] rfl rfl (by kernel_rfl) (fun _ _ _ h => h) (Or.inl ⟨by rfl, ?_⟩) hHeld ?_ ?_
        rotate_left
        ·rintro w' ⟨s0, s1, s2, s3, s4, s5, s6, s7, s8, s9⟩
         go_simp
         with_reducible rfl
        rotate_left
        ·simp only [Act.put, List.setIfInBounds_toArray, List.set_cons_zero, List.set_cons_succ, i64_w, i32_w]
         rfl
        refine one_ (i := 2) (N := some 56) #[true, true, true, false, false] rfl rfl (by kernel_rfl) (by decide) (fun K hK => ?_)
        refine goes_ Try.func9 (by kernel_rfl) rfl #[.agg #[.int .i64 a0_0, .int .i64 a0_1, .int .i64 a0_2, .int .i64 a0_3, .slice A0_4 l0_4.length c0_4]] (by rfl) rfl rfl (by (try simp only [List.map_toArray, List.map_cons, List.map_nil]); first | done | rfl | (simp only [List.length_drop, List.length_take]; rfl)) ?_
        with_reducible refine (laws_toAxis.calls kj18 a0_0 a0_1 a0_2 a0_3 _ _ l0_4 t495 t496 t497 t498 t499 _ ?side1 ?side2 A46.out).mono ?_
        (case side1 => repeat (first | exact (Kd.C_below HR0_4.out HB.out) | (with_reducible refine Kd.C_alloc ?_ _) | (with_reducible refine Kd.C_drewN ?_ _) | (with_reducible refine Kd.C_drew ?_)))
        (case side2 => exact HC0_4.out)
        rintro e w106 ⟨v500, rfl, ho0, hb⟩
        refine ⟨_, rfl, ?_⟩
        have n0_ := Aside0.mk (Kd.R_below (by (with_reducible repeat (first | apply Kd.R_alloc | apply Kd.R_drewN | apply Kd.R_drew)); exact HO_6.out) hb)
        have n1_ := Aside0.mk (Kd.R_below (by (with_reducible repeat (first | apply Kd.R_alloc | apply Kd.R_drewN | apply Kd.R_drew)); exact HO_9.out) hb)
        have n2_ := Aside0.mk (Kd.R_below (by (with_reducible repeat (first | apply Kd.R_alloc | apply Kd.R_drewN | apply Kd.R_drew)); exact HO_10.out) hb)
        have n3_ := Aside0.mk (Kd.R_elder' (by (with_reducible repeat (first | apply Kd.R_alloc | apply Kd.R_drewN | apply Kd.R_drew)); exact HO_487004.out) (Kd.R_base ho0) hb)
        have n4_ := Aside0.mk (Kd.R_lower (Kd.R_new' ho0 (Kd.R_lt (by (with_reducible repeat (first | apply Kd.R_alloc | apply Kd.R_drewN | apply Kd.R_drew)); exact HO_487004.out))) (below_size (by repeat (first | (with_reducible first | exact HB.out | apply below_alloc | apply pw_below_drewN | apply below_drew1 | refine below_set ?_ GE462.out | refine below_set ?_ GE486.out) | exact HB.out))))
        have n5_ := Aside0.mk (blk_below (g := gb462) (o := .cells #[.int .i64 a0_0, .int .i64 a0_1, .int .i64 a0_2, .int .i64 a0_3, .slice A0_4 l0_4.length c0_4] 26 (0, 0)) (by (with_reducible repeat (first | refine blk_drewN ?_ _ | refine blk_drew ?_ | refine blk_alloc ?_ _)); exact BK462.out) hb)
        have n6_ := Aside0.mk (blk_below (g := gb486) (o := .cells #[.int .i64 t479, .int .i64 t480, .int .i64 t481, .int .i64 t482, .slice Ao34 t483.length co34] 31 (0, 0)) (by (with_reducible repeat (first | refine blk_drewN ?_ _ | refine blk_drew ?_ | refine blk_alloc ?_ _)); exact BK486.out) hb)
        have n7_ := Aside0.mk (below_step (by repeat (first | (with_reducible first | exact HB.out | apply below_alloc | apply pw_below_drewN | apply below_drew1 | refine below_set ?_ GE462.out | refine below_set ?_ GE486.out) | exact HB.out)) hb)
        clear HO_6
        clear HO_9
        clear HO_10
        clear HO_487004
        clear BK462
        clear BK486
        clear HB
        have HO_6 := n0_
        have HO_9 := n1_
        have HO_10 := n2_
        have HO_487004 := n3_
        have HO501 := n4_
        have BK462 := n5_
        have BK486 := n6_
        have HB := n7_
        clear n0_ n1_ n2_ n3_ n4_ n5_ n6_ n7_
        (try clear hb)
        (try clear hb2)
        (try clear hk)
        (try clear hi)
        (try clear ho0)
        obtain ⟨Ao107, co107, eo107⟩ := Kd.R_slice HO501.out
        (first | subst eo107 | (injection eo107 with f1_ f2_ f3_; have f4_ := f1_.symm; have f5_ := f3_.symm; clear f1_ f2_ f3_; subst f4_; subst f5_))
        refine hK.out _ _ ⟨(blk_cell BK486.out 0).trans rfl, (blk_cell BK486.out 1).trans rfl, (blk_cell BK486.out 2).trans rfl, (blk_cell BK486.out 3).trans rfl, (blk_cell BK486.out 4).trans rfl, (blk_cell BK462.out 0).trans rfl, (blk_cell BK462.out 1).trans rfl, (blk_cell BK462.out 2).trans rfl, (blk_cell BK462.out 3).trans rfl, (blk_cell BK462.out 4).trans rfl⟩ (fun hHeld => ?_)
        clear hK K
        refine norm_ (a' := ?_) ?_ ?_
        rotate_left
        ·show Act.put _ (some 56) _ = _
         simp only [Act.put, List.setIfInBounds_toArray, List.set_cons_zero, List.set_cons_succ, i64_w, i32_w]
         rfl
        refine one_ (i := 3) (N := some 57) #[true, true, true, true, false] rfl rfl (by kernel_rfl) (by decide) (fun K hK => ?_)
        refine goes_ Try.func11 (by kernel_rfl) rfl #[.agg #[.int .i64 t479, .int .i64 t480, .int .i64 t481, .int .i64 t482, .slice Ao34 t483.length co34], .agg #[.int .i64 t495, .int .i64 t496, .int .i64 t497, .int .i64 t498, .slice Ao107 t499.length co107]] (by rfl) rfl rfl (by (try simp only [List.map_toArray, List.map_cons, List.map_nil]); first | done | rfl | (simp only [List.length_drop, List.length_take]; rfl)) ?_
        with_reducible refine (laws_eqAxis.calls kj18 t479 t480 t481 t482 _ _ t483 t495 t496 t497 t498 _ _ t499 true _ ?side1 ?side2 ?side3 ?side4 A47.out).mono ?_
        (case side1 => repeat (first | exact (Kd.R_reads' HO_487004.out).2.2 | (with_reducible refine Kd.C_alloc ?_ _) | (with_reducible refine Kd.C_drewN ?_ _) | (with_reducible refine Kd.C_drew ?_)))
        (case side2 => exact (Kd.R_reads' HO_487004.out).2.1)
        (case side3 => repeat (first | exact (Kd.R_reads' HO501.out).2.2 | (with_reducible refine Kd.C_alloc ?_ _) | (with_reducible refine Kd.C_drewN ?_ _) | (with_reducible refine Kd.C_drew ?_)))
        (case side4 => exact (Kd.R_reads' HO501.out).2.1)
        rintro e w108 ⟨rfl, hb⟩
        refine ⟨_, rfl, ?_⟩
        have n0_ := Aside0.mk (Kd.R_below (by (with_reducible repeat (first | apply Kd.R_alloc | apply Kd.R_drewN | apply Kd.R_drew)); exact HO_6.out) hb)
        have n1_ := Aside0.mk (Kd.R_below (by (with_reducible repeat (first | apply Kd.R_alloc | apply Kd.R_drewN | apply Kd.R_drew)); exact HO_9.out) hb)
        have n2_ := Aside0.mk (Kd.R_below (by (with_reducible repeat (first | apply Kd.R_alloc | apply Kd.R_drewN | apply Kd.R_drew)); exact HO_10.out) hb)
        have n3_ := Aside0.mk (Kd.R_below (by (with_reducible repeat (first | apply Kd.R_alloc | apply Kd.R_drewN | apply Kd.R_drew)); exact HO_487004.out) hb)
        have n4_ := Aside0.mk (Kd.R_below (by (with_reducible repeat (first | apply Kd.R_alloc | apply Kd.R_drewN | apply Kd.R_drew)); exact HO501.out) hb)
        have n5_ := Aside0.mk (blk_below (g := gb462) (o := .cells #[.int .i64 a0_0, .int .i64 a0_1, .int .i64 a0_2, .int .i64 a0_3, .slice A0_4 l0_4.length c0_4] 26 (0, 0)) (by (with_reducible repeat (first | refine blk_drewN ?_ _ | refine blk_drew ?_ | refine blk_alloc ?_ _)); exact BK462.out) hb)
        have n6_ := Aside0.mk (blk_below (g := gb486) (o := .cells #[.int .i64 t479, .int .i64 t480, .int .i64 t481, .int .i64 t482, .slice Ao34 t483.length co34] 31 (0, 0)) (by (with_reducible repeat (first | refine blk_drewN ?_ _ | refine blk_drew ?_ | refine blk_alloc ?_ _)); exact BK486.out) hb)
        have n7_ := Aside0.mk (below_step (by repeat (first | (with_reducible first | exact HB.out | apply below_alloc | apply pw_below_drewN | apply below_drew1 | refine below_set ?_ GE462.out | refine below_set ?_ GE486.out) | exact HB.out)) hb)
        clear HO_6
        clear HO_9
        clear HO_10
        clear HO_487004
        clear HO501
        clear BK462
        clear BK486
        clear HB
        have HO_6 := n0_
        have HO_9 := n1_
        have HO_10 := n2_
        have HO_487004 := n3_
        have HO501 := n4_
        have BK462 := n5_
        have BK486 := n6_
        have HB := n7_
        clear n0_ n1_ n2_ n3_ n4_ n5_ n6_ n7_
        (try clear hb)
        (try clear hb2)
        (try clear hk)
        (try clear hi)
        refine hK.out _ _ ⟨(blk_cell BK486.out 0).trans rfl, (blk_cell BK486.out 1).trans rfl, (blk_cell BK486.out 2).trans rfl, (blk_cell BK486.out 3).trans rfl, (blk_cell BK486.out 4).trans rfl, (blk_cell BK462.out 0).trans rfl, (blk_cell BK462.out 1).trans rfl, (blk_cell BK462.out 2).trans rfl, (blk_cell BK462.out 3).trans rfl, (blk_cell BK462.out 4).trans rfl⟩ (fun hHeld => ?_)
        clear hK K
        refine norm_ (a' := ?_) ?_ ?_
        rotate_left
        ·show Act.put _ (some 57) _ = _
         simp only [Act.put, List.setIfInBounds_toArray, List.set_cons_zero, List.set_cons_succ, i64_w, i32_w]
         rfl
        refine pure_ (i := 4) (N := some 58) (v := ?_) (a' := ?_) #[true, true, true, true, true] rfl rfl (by kernel_rfl) (fun _ _ _ h => h) (Or.inl ⟨by rfl, ?_⟩) ?_ ?_
        rotate_left
        ·intro w'
         go_simp
         with_reducible rfl
        rotate_left
        ·simp only [Act.put, List.setIfInBounds_toArray, List.set_cons_zero, List.set_cons_succ, i64_w, i32_w]
         rfl
        refine done_ (by kernel_rfl) ?_
        try go_wp2_with (first | ((with_reducible refine gate_callee (f := 16) rfl ?_); refine goesL_ (some 61) rfl rfl Try.func16 (by kernel_rfl) rfl #[.slice A1 l1.length c1] rfl (by (try simp only [List.map_toArray, List.map_cons, List.map_nil]); first | done | rfl | (simp only [List.length_drop, List.length_take]; rfl)) ?_; (with_reducible refine (laws_toPoseS.calls kj18 _ _ l1 t503 _ ?side1 ?side2 A49.out).mono ?_); (case side1 => repeat (first | exact (Kd.C_below HR1.out HB.out) | (with_reducible refine Kd.C_alloc ?_ _) | (with_reducible refine Kd.C_drewN ?_ _) | (with_reducible refine Kd.C_drew ?_))); (case side2 => exact HC1.out); rintro e w109 ⟨v504, rfl, ho0, hb⟩; refine ⟨_, rfl, ?_⟩; have n0_ := Aside0.mk (Kd.R_below (by (with_reducible repeat (first | apply Kd.R_alloc | apply Kd.R_drewN | apply Kd.R_drew)); exact HO_6.out) hb); have n1_ := Aside0.mk (Kd.R_elder' (by (with_reducible repeat (first | apply Kd.R_alloc | apply Kd.R_drewN | apply Kd.R_drew)); exact HO_9.out) (Kd.R_base ho0) hb); have n2_ := Aside0.mk (Kd.R_below (by (with_reducible repeat (first | apply Kd.R_alloc | apply Kd.R_drewN | apply Kd.R_drew)); exact HO_10.out) hb); have n3_ := Aside0.mk (Kd.R_below (by (with_reducible repeat (first | apply Kd.R_alloc | apply Kd.R_drewN | apply Kd.R_drew)); exact HO_487004.out) hb); have n4_ := Aside0.mk (Kd.R_below (by (with_reducible repeat (first | apply Kd.R_alloc | apply Kd.R_drewN | apply Kd.R_drew)); exact HO501.out) hb); have n5_ := Aside0.mk (Kd.R_lower (Kd.R_new' ho0 (Kd.R_lt (by (with_reducible repeat (first | apply Kd.R_alloc | apply Kd.R_drewN | apply Kd.R_drew)); exact HO_9.out))) (below_size (by repeat (first | (with_reducible first | exact HB.out | apply below_alloc | apply pw_below_drewN | apply below_drew1 | refine below_set ?_ GE462.out | refine below_set ?_ GE486.out) | exact HB.out)))); have n6_ := Aside0.mk (blk_below (g := gb462) (o := .cells #[.int .i64 a0_0, .int .i64 a0_1, .int .i64 a0_2, .int .i64 a0_3, .slice A0_4 l0_4.length c0_4] 26 (0, 0)) (by (with_reducible repeat (first | refine blk_drewN ?_ _ | refine blk_drew ?_ | refine blk_alloc ?_ _)); exact BK462.out) hb); have n7_ := Aside0.mk (blk_below (g := gb486) (o := .cells #[.int .i64 t479, .int .i64 t480, .int .i64 t481, .int .i64 t482, .slice Ao34 t483.length co34] 31 (0, 0)) (by (with_reducible repeat (first | refine blk_drewN ?_ _ | refine blk_drew ?_ | refine blk_alloc ?_ _)); exact BK486.out) hb); have n8_ := Aside0.mk (below_step (by repeat (first | (with_reducible first | exact HB.out | apply below_alloc | apply pw_below_drewN | apply below_drew1 | refine below_set ?_ GE462.out | refine below_set ?_ GE486.out) | exact HB.out)) hb); clear HO_6; clear HO_9; clear HO_10; clear HO_487004; clear HO501; clear BK462; clear BK486; clear HB; have HO_6 := n0_; have HO_9 := n1_; have HO_10 := n2_; have HO_487004 := n3_; have HO501 := n4_; have HO505 := n5_; have BK462 := n6_; have BK486 := n7_; have HB := n8_; clear n0_ n1_ n2_ n3_ n4_ n5_ n6_ n7_ n8_; (try clear hb); (try clear hb2); (try clear hk); (try clear hi); (try clear ho0); obtain ⟨Ao110, co110, eo110⟩ := Kd.R_slice HO505.out; subst eo110) | ((with_reducible refine gate_callee (f := 18) rfl ?_); refine goesL_ (some 62) rfl rfl Try.func18 (by kernel_rfl) rfl #[.slice Ao37 t487.length co37, .slice Ao110 t503.length co110] rfl (by (try simp only [List.map_toArray, List.map_cons, List.map_nil]); first | done | rfl | (simp only [List.length_drop, List.length_take]; rfl)) ?_; (with_reducible refine (laws_eqPoseS.calls kj18 _ _ t487 _ _ t503 false _ ?side1 ?side2 ?side3 ?side4 A50.out).mono ?_); (case side1 => repeat (first | exact (Kd.R_reads' HO_9.out).2.2 | (with_reducible refine Kd.C_alloc ?_ _) | (with_reducible refine Kd.C_drewN ?_ _) | (with_reducible refine Kd.C_drew ?_))); (case side2 => exact (Kd.R_reads' HO_9.out).2.1); (case side3 => repeat (first | exact (Kd.R_reads' HO505.out).2.2 | (with_reducible refine Kd.C_alloc ?_ _) | (with_reducible refine Kd.C_drewN ?_ _) | (with_reducible refine Kd.C_drew ?_))); (case side4 => exact (Kd.R_reads' HO505.out).2.1); rintro e w111 ⟨rfl, hb⟩; refine ⟨_, rfl, ?_⟩; have n0_ := Aside0.mk (Kd.R_below (by (with_reducible repeat (first | apply Kd.R_alloc | apply Kd.R_drewN | apply Kd.R_drew)); exact HO_6.out) hb); have n1_ := Aside0.mk (Kd.R_below (by (with_reducible repeat (first | apply Kd.R_alloc | apply Kd.R_drewN | apply Kd.R_drew)); exact HO_9.out) hb); have n2_ := Aside0.mk (Kd.R_below (by (with_reducible repeat (first | apply Kd.R_alloc | apply Kd.R_drewN | apply Kd.R_drew)); exact HO_10.out) hb); have n3_ := Aside0.mk (Kd.R_below (by (with_reducible repeat (first | apply Kd.R_alloc | apply Kd.R_drewN | apply Kd.R_drew)); exact HO_487004.out) hb); have n4_ := Aside0.mk (Kd.R_below (by (with_reducible repeat (first | apply Kd.R_alloc | apply Kd.R_drewN | apply Kd.R_drew)); exact HO501.out) hb); have n5_ := Aside0.mk (Kd.R_below (by (with_reducible repeat (first | apply Kd.R_alloc | apply Kd.R_drewN | apply Kd.R_drew)); exact HO505.out) hb); have n6_ := Aside0.mk (blk_below (g := gb462) (o := .cells #[.int .i64 a0_0, .int .i64 a0_1, .int .i64 a0_2, .int .i64 a0_3, .slice A0_4 l0_4.length c0_4] 26 (0, 0)) (by (with_reducible repeat (first | refine blk_drewN ?_ _ | refine blk_drew ?_ | refine blk_alloc ?_ _)); exact BK462.out) hb); have n7_ := Aside0.mk (blk_below (g := gb486) (o := .cells #[.int .i64 t479, .int .i64 t480, .int .i64 t481, .int .i64 t482, .slice Ao34 t483.length co34] 31 (0, 0)) (by (with_reducible repeat (first | refine blk_drewN ?_ _ | refine blk_drew ?_ | refine blk_alloc ?_ _)); exact BK486.out) hb); have n8_ := Aside0.mk (below_step (by repeat (first | (with_reducible first | exact HB.out | apply below_alloc | apply pw_below_drewN | apply below_drew1 | refine below_set ?_ GE462.out | refine below_set ?_ GE486.out) | exact HB.out)) hb); clear HO_6; clear HO_9; clear HO_10; clear HO_487004; clear HO501; clear HO505; clear BK462; clear BK486; clear HB; have HO_6 := n0_; have HO_9 := n1_; have HO_10 := n2_; have HO_487004 := n3_; have HO501 := n4_; have HO505 := n5_; have BK462 := n6_; have BK486 := n7_; have HB := n8_; clear n0_ n1_ n2_ n3_ n4_ n5_ n6_ n7_ n8_; (try clear hb); (try clear hb2); (try clear hk); (try clear hi)))
        go_ret
        exact ⟨by first | rfl | (simp [errW_none, errW_some] <;> rfl) | (simp [*, errW_none, errW_some] <;> rfl), by repeat (first | (with_reducible first | exact HB.out | apply below_alloc | apply pw_below_drewN | apply below_drew1 | refine below_set ?_ GE462.out | refine below_set ?_ GE486.out) | exact HB.out)⟩
      ·replace c48 := Bool.eq_false_iff.mpr c48
       subst c48
       have H1 : (some false) = some r := by rw [if_neg (show ¬ (false = true) by decide)] at H; exact H
       clear H
       have H := H1
       clear H1
       obtain rfl := Option.some.inj H
       try go_wp2
       have n0_ := Aside0.mk (Kd.R_drew HO_6.out)
       have n1_ := Aside0.mk (Kd.R_drew HO_9.out)
       have n2_ := Aside0.mk (Kd.R_drew HO_10.out)
       have n3_ := Aside0.mk (Kd.R_drew HO_487004.out)
       have n4_ := Aside0.mk (blk_drew BK462.out)
       have n5_ := Aside0.mk (blk_drew BK486.out)
       have n6_ := Aside0.mk (below_drew1 HB.out)
       clear HO_6
       clear HO_9
       clear HO_10
       clear HO_487004
       clear BK462
       clear BK486
       clear HB
       have HO_6 := n0_
       have HO_9 := n1_
       have HO_10 := n2_
       have HO_487004 := n3_
       have BK462 := n4_
       have BK486 := n5_
       have HB := n6_
       clear n0_ n1_ n2_ n3_ n4_ n5_ n6_
       refine start_ (n := 5) (S := fun w' => w'.cell? ⟨gb486, 0, none⟩ = some (.int .i64 t479) ∧ w'.cell? ⟨gb486, 1, none⟩ = some (.int .i64 t480) ∧ w'.cell? ⟨gb486, 2, none⟩ = some (.int .i64 t481) ∧ w'.cell? ⟨gb486, 3, none⟩ = some (.int .i64 t482) ∧ w'.cell? ⟨gb486, 4, none⟩ = some (.slice Ao34 t483.length co34) ∧ w'.cell? ⟨gb462, 0, none⟩ = some (.int .i64 a0_0) ∧ w'.cell? ⟨gb462, 1, none⟩ = some (.int .i64 a0_1) ∧ w'.cell? ⟨gb462, 2, none⟩ = some (.int .i64 a0_2) ∧ w'.cell? ⟨gb462, 3, none⟩ = some (.int .i64 a0_3) ∧ w'.cell? ⟨gb462, 4, none⟩ = some (.slice A0_4 l0_4.length c0_4)) (ds := []) #[false, false, false, false, false] (by kernel_rfl) rfl rfl ⟨(blk_cell BK486.out 0).trans rfl, (blk_cell BK486.out 1).trans rfl, (blk_cell BK486.out 2).trans rfl, (blk_cell BK486.out 3).trans rfl, (blk_cell BK486.out 4).trans rfl, (blk_cell BK462.out 0).trans rfl, (blk_cell BK462.out 1).trans rfl, (blk_cell BK462.out 2).trans rfl, (blk_cell BK462.out 3).trans rfl, (blk_cell BK462.out 4).trans rfl⟩ (fun hHeld => ?_)
       generalize wc.drew = w112 at HO_6 HO_9 HO_10 HO_487004 BK462 BK486 HB hHeld ⊢
       refine take_ (i := 0) (N := some 54) (v := ?_) (a' := ?_) #[true, false, false, false, false] rfl rfl (by kernel_rfl) (fun _ _ _ h => h) (Or.inl ⟨by rfl, ?_⟩) hHeld ?_ ?_
       rotate_left
       ·rintro w' ⟨s0, s1, s2, s3, s4, s5, s6, s7, s8, s9⟩
        go_simp
        with_reducible rfl
       rotate_left
       ·simp only [Act.put, List.setIfInBounds_toArray, List.set_cons_zero, List.set_cons_succ, i64_w, i32_w]
        rfl
       refine take_ (i := 1) (N := some 55) (v := ?_) (a' := ?_) #[true, true, false, false, false] rfl rfl (by kernel_rfl) (fun _ _ _ h => h) (Or.inl ⟨by rfl, ?_⟩) hHeld ?_ ?_
       rotate_left
       ·rintro w' ⟨s0, s1, s2, s3, s4, s5, s6, s7, s8, s9⟩
        go_simp
        with_reducible rfl
       rotate_left
       ·simp only [Act.put, List.setIfInBounds_toArray, List.set_cons_zero, List.set_cons_succ, i64_w, i32_w]
        rfl
       refine one_ (i := 2) (N := some 56) #[true, true, true, false, false] rfl rfl (by kernel_rfl) (by decide) (fun K hK => ?_)
       refine goes_ Try.func9 (by kernel_rfl) rfl #[.agg #[.int .i64 a0_0, .int .i64 a0_1, .int .i64 a0_2, .int .i64 a0_3, .slice A0_4 l0_4.length c0_4]] (by rfl) rfl rfl (by (try simp only [List.map_toArray, List.map_cons, List.map_nil]); first | done | rfl | (simp only [List.length_drop, List.length_take]; rfl)) ?_
       with_reducible refine (laws_toAxis.calls kj18 a0_0 a0_1 a0_2 a0_3 _ _ l0_4 t495 t496 t497 t498 t499 _ ?side1 ?side2 A46.out).mono ?_
       (case side1 => repeat (first | exact (Kd.C_below HR0_4.out HB.out) | (with_reducible refine Kd.C_alloc ?_ _) | (with_reducible refine Kd.C_drewN ?_ _) | (with_reducible refine Kd.C_drew ?_)))
       (case side2 => exact HC0_4.out)
       rintro e w113 ⟨v500, rfl, ho0, hb⟩
       refine ⟨_, rfl, ?_⟩
       have n0_ := Aside0.mk (Kd.R_below (by (with_reducible repeat (first | apply Kd.R_alloc | apply Kd.R_drewN | apply Kd.R_drew)); exact HO_6.out) hb)
       have n1_ := Aside0.mk (Kd.R_below (by (with_reducible repeat (first | apply Kd.R_alloc | apply Kd.R_drewN | apply Kd.R_drew)); exact HO_9.out) hb)
       have n2_ := Aside0.mk (Kd.R_below (by (with_reducible repeat (first | apply Kd.R_alloc | apply Kd.R_drewN | apply Kd.R_drew)); exact HO_10.out) hb)
       have n3_ := Aside0.mk (Kd.R_elder' (by (with_reducible repeat (first | apply Kd.R_alloc | apply Kd.R_drewN | apply Kd.R_drew)); exact HO_487004.out) (Kd.R_base ho0) hb)
       have n4_ := Aside0.mk (Kd.R_lower (Kd.R_new' ho0 (Kd.R_lt (by (with_reducible repeat (first | apply Kd.R_alloc | apply Kd.R_drewN | apply Kd.R_drew)); exact HO_487004.out))) (below_size (by repeat (first | (with_reducible first | exact HB.out | apply below_alloc | apply pw_below_drewN | apply below_drew1 | refine below_set ?_ GE462.out | refine below_set ?_ GE486.out) | exact HB.out))))
       have n5_ := Aside0.mk (blk_below (g := gb462) (o := .cells #[.int .i64 a0_0, .int .i64 a0_1, .int .i64 a0_2, .int .i64 a0_3, .slice A0_4 l0_4.length c0_4] 26 (0, 0)) (by (with_reducible repeat (first | refine blk_drewN ?_ _ | refine blk_drew ?_ | refine blk_alloc ?_ _)); exact BK462.out) hb)
       have n6_ := Aside0.mk (blk_below (g := gb486) (o := .cells #[.int .i64 t479, .int .i64 t480, .int .i64 t481, .int .i64 t482, .slice Ao34 t483.length co34] 31 (0, 0)) (by (with_reducible repeat (first | refine blk_drewN ?_ _ | refine blk_drew ?_ | refine blk_alloc ?_ _)); exact BK486.out) hb)
       have n7_ := Aside0.mk (below_step (by repeat (first | (with_reducible first | exact HB.out | apply below_alloc | apply pw_below_drewN | apply below_drew1 | refine below_set ?_ GE462.out | refine below_set ?_ GE486.out) | exact HB.out)) hb)
       clear HO_6
       clear HO_9
       clear HO_10
       clear HO_487004
       clear BK462
       clear BK486
       clear HB
       have HO_6 := n0_
       have HO_9 := n1_
       have HO_10 := n2_
       have HO_487004 := n3_
       have HO501 := n4_
       have BK462 := n5_
       have BK486 := n6_
       have HB := n7_
       clear n0_ n1_ n2_ n3_ n4_ n5_ n6_ n7_
       (try clear hb)
       (try clear hb2)
       (try clear hk)
       (try clear hi)
       (try clear ho0)
       obtain ⟨Ao114, co114, eo114⟩ := Kd.R_slice HO501.out
       (first | subst eo114 | (injection eo114 with f1_ f2_ f3_; have f4_ := f1_.symm; have f5_ := f3_.symm; clear f1_ f2_ f3_; subst f4_; subst f5_))
       refine hK.out _ _ ⟨(blk_cell BK486.out 0).trans rfl, (blk_cell BK486.out 1).trans rfl, (blk_cell BK486.out 2).trans rfl, (blk_cell BK486.out 3).trans rfl, (blk_cell BK486.out 4).trans rfl, (blk_cell BK462.out 0).trans rfl, (blk_cell BK462.out 1).trans rfl, (blk_cell BK462.out 2).trans rfl, (blk_cell BK462.out 3).trans rfl, (blk_cell BK462.out 4).trans rfl⟩ (fun hHeld => ?_)
       clear hK K
       refine norm_ (a' := ?_) ?_ ?_
       rotate_left
       ·show Act.put _ (some 56) _ = _
        simp only [Act.put, List.setIfInBounds_toArray, List.set_cons_zero, List.set_cons_succ, i64_w, i32_w]
        rfl
       refine one_ (i := 3) (N := some 57) #[true, true, true, true, false] rfl rfl (by kernel_rfl) (by decide) (fun K hK => ?_)
       refine goes_ Try.func11 (by kernel_rfl) rfl #[.agg #[.int .i64 t479, .int .i64 t480, .int .i64 t481, .int .i64 t482, .slice Ao34 t483.length co34], .agg #[.int .i64 t495, .int .i64 t496, .int .i64 t497, .int .i64 t498, .slice Ao114 t499.length co114]] (by rfl) rfl rfl (by (try simp only [List.map_toArray, List.map_cons, List.map_nil]); first | done | rfl | (simp only [List.length_drop, List.length_take]; rfl)) ?_
       with_reducible refine (laws_eqAxis.calls kj18 t479 t480 t481 t482 _ _ t483 t495 t496 t497 t498 _ _ t499 false _ ?side1 ?side2 ?side3 ?side4 A47.out).mono ?_
       (case side1 => repeat (first | exact (Kd.R_reads' HO_487004.out).2.2 | (with_reducible refine Kd.C_alloc ?_ _) | (with_reducible refine Kd.C_drewN ?_ _) | (with_reducible refine Kd.C_drew ?_)))
       (case side2 => exact (Kd.R_reads' HO_487004.out).2.1)
       (case side3 => repeat (first | exact (Kd.R_reads' HO501.out).2.2 | (with_reducible refine Kd.C_alloc ?_ _) | (with_reducible refine Kd.C_drewN ?_ _) | (with_reducible refine Kd.C_drew ?_)))
       (case side4 => exact (Kd.R_reads' HO501.out).2.1)
       rintro e w115 ⟨rfl, hb⟩
       refine ⟨_, rfl, ?_⟩
       have n0_ := Aside0.mk (Kd.R_below (by (with_reducible repeat (first | apply Kd.R_alloc | apply Kd.R_drewN | apply Kd.R_drew)); exact HO_6.out) hb)
       have n1_ := Aside0.mk (Kd.R_below (by (with_reducible repeat (first | apply Kd.R_alloc | apply Kd.R_drewN | apply Kd.R_drew)); exact HO_9.out) hb)
       have n2_ := Aside0.mk (Kd.R_below (by (with_reducible repeat (first | apply Kd.R_alloc | apply Kd.R_drewN | apply Kd.R_drew)); exact HO_10.out) hb)
       have n3_ := Aside0.mk (Kd.R_below (by (with_reducible repeat (first | apply Kd.R_alloc | apply Kd.R_drewN | apply Kd.R_drew)); exact HO_487004.out) hb)
       have n4_ := Aside0.mk (Kd.R_below (by (with_reducible repeat (first | apply Kd.R_alloc | apply Kd.R_drewN | apply Kd.R_drew)); exact HO501.out) hb)
       have n5_ := Aside0.mk (blk_below (g := gb462) (o := .cells #[.int .i64 a0_0, .int .i64 a0_1, .int .i64 a0_2, .int .i64 a0_3, .slice A0_4 l0_4.length c0_4] 26 (0, 0)) (by (with_reducible repeat (first | refine blk_drewN ?_ _ | refine blk_drew ?_ | refine blk_alloc ?_ _)); exact BK462.out) hb)
       have n6_ := Aside0.mk (blk_below (g := gb486) (o := .cells #[.int .i64 t479, .int .i64 t480, .int .i64 t481, .int .i64 t482, .slice Ao34 t483.length co34] 31 (0, 0)) (by (with_reducible repeat (first | refine blk_drewN ?_ _ | refine blk_drew ?_ | refine blk_alloc ?_ _)); exact BK486.out) hb)
       have n7_ := Aside0.mk (below_step (by repeat (first | (with_reducible first | exact HB.out | apply below_alloc | apply pw_below_drewN | apply below_drew1 | refine below_set ?_ GE462.out | refine below_set ?_ GE486.out) | exact HB.out)) hb)
       clear HO_6
       clear HO_9
       clear HO_10
       clear HO_487004
       clear HO501
       clear BK462
       clear BK486
       clear HB
       have HO_6 := n0_
       have HO_9 := n1_
       have HO_10 := n2_
       have HO_487004 := n3_
       have HO501 := n4_
       have BK462 := n5_
       have BK486 := n6_
       have HB := n7_
       clear n0_ n1_ n2_ n3_ n4_ n5_ n6_ n7_
       (try clear hb)
       (try clear hb2)
       (try clear hk)
       (try clear hi)
       refine hK.out _ _ ⟨(blk_cell BK486.out 0).trans rfl, (blk_cell BK486.out 1).trans rfl, (blk_cell BK486.out 2).trans rfl, (blk_cell BK486.out 3).trans rfl, (blk_cell BK486.out 4).trans rfl, (blk_cell BK462.out 0).trans rfl, (blk_cell BK462.out 1).trans rfl, (blk_cell BK462.out 2).trans rfl, (blk_cell BK462.out 3).trans rfl, (blk_cell BK462.out 4).trans rfl⟩ (fun hHeld => ?_)
       clear hK K
       refine norm_ (a' := ?_) ?_ ?_
       rotate_left
       ·show Act.put _ (some 57) _ = _
        simp only [Act.put, List.setIfInBounds_toArray, List.set_cons_zero, List.set_cons_succ, i64_w, i32_w]
        rfl
       refine pure_ (i := 4) (N := some 58) (v := ?_) (a' := ?_) #[true, true, true, true, true] rfl rfl (by kernel_rfl) (fun _ _ _ h => h) (Or.inl ⟨by rfl, ?_⟩) ?_ ?_
       rotate_left
       ·intro w'
        go_simp
        with_reducible rfl
       rotate_left
       ·simp only [Act.put, List.setIfInBounds_toArray, List.set_cons_zero, List.set_cons_succ, i64_w, i32_w]
        rfl
       refine done_ (by kernel_rfl) ?_
       try go_wp2
       go_ret
       exact ⟨by first | rfl | (simp [errW_none, errW_some] <;> rfl) | (simp [*, errW_none, errW_some] <;> rfl), by repeat (first | (with_reducible first | exact HB.out | apply below_alloc | apply pw_below_drewN | apply below_drew1 | refine below_set ?_ GE462.out | refine below_set ?_ GE486.out) | exact HB.out)⟩

end Go.Proofs.Ytgknckbplbldbaa.G
