-- written by wip/tools/myprint.py for this claim (out of the translation; functions by hand where the printer stops). Lean checks it.
import Derived.Test.YtbabgpkfppdfnaaGx0
import Derived.Test.YtbabgpkfppdfnaaGx7
import Derived.Test.YtbabgpkfppdfnaaGx9
import Derived.Test.YtbabgpkfppdfnaaGx10
import Derived.Test.YtbabgpkfppdfnaaGx13
namespace Go.Proofs.Ytbabgpkfppdfnaa.G
open Go.RowKit Go.Proofs.YtbabgpkfppdfnaaW.PrintWords Go.Proofs.YtbabgpkfppdfnaaW.PrintLast Go.Proofs.YtbabgpkfppdfnaaW.PrintMore
attribute [local go_sem] max2_int min2_int max_two min_two max_three min_three max_four min_four   -- for this text's walks alone
set_option linter.unusedVariables false
set_option linter.unusedSimpArgs false

/-! ### laws_FnSumAlarms: function 9 -/
mutual
def laws_FnSumAlarms.j0 : Nat → List Int → Int → Int → List Int → Int → Int → Bool → Bool → Option (Bool)
  | 0, _, _, _, _, _, _, _, _ => none
  | k + 1, x5, x6, x7, x8, x10, x11, x12, x51 => if x51 = true then (some false) else (laws_FnSumAlarms.l0 k x5 x6 x7 x8 x10 x11 x12 (-1) 0)
def laws_FnSumAlarms.l0 : Nat → List Int → Int → Int → List Int → Int → Int → Bool → Int → Int → Option (Bool)
  | 0, _, _, _, _, _, _, _, _, _ => none
  | k + 1, x5, x6, x7, x8, x10, x11, x12, x13, x14 => if x14 < (x5.length : Int) then (laws_FnSumAlarms.l1 k x5 x6 x7 x8 x10 x11 x12 x13 x14 0 0 x14) else (if (x12 != (decide (x13 ≥ 0))) = true then (some false) else (if x12 = true then (if x11 = x13 then (if x10 < 0 then (laws_FnSumAlarms.j3 k x5 x6 x7 x8 x10 x11 true) else (laws_FnSumAlarms.j3 k x5 x6 x7 x8 x10 x11 (decide (x10 > x11)))) else (laws_FnSumAlarms.j3 k x5 x6 x7 x8 x10 x11 true)) else (some true)))
def laws_FnSumAlarms.l1 : Nat → List Int → Int → Int → List Int → Int → Int → Bool → Int → Int → Int → Int → Int → Option (Bool)
  | 0, _, _, _, _, _, _, _, _, _, _, _, _ => none
  | k + 1, x5, x6, x7, x8, x10, x11, x12, x13, x14, x15, x16, x17 => if x17 ≥ 0 then (if 0 ≤ x17 then (if x17 < (x5.length : Int) then ((laws_r8Most2.f x15 (wrap64 (x16 + (wrap64 ((rd x5 x17) - x6))))).bind fun t384 => (laws_FnSumAlarms.l1 k x5 x6 x7 x8 x10 x11 x12 x13 x14 t384 (wrap64 (x16 + (wrap64 ((rd x5 x17) - x6)))) (wrap64 (x17 - 1)))) else (none)) else (none)) else (if 0 ≤ x14 then (if x14 < (x8.length : Int) then (if (rd x8 x14) = x15 then (if x15 > x7 then (if x13 < 0 then (laws_FnSumAlarms.l0 k x5 x6 x7 x8 x10 x11 x12 x14 (wrap64 (x14 + 1))) else (laws_FnSumAlarms.l0 k x5 x6 x7 x8 x10 x11 x12 x13 (wrap64 (x14 + 1)))) else (laws_FnSumAlarms.l0 k x5 x6 x7 x8 x10 x11 x12 x13 (wrap64 (x14 + 1)))) else (some false)) else (none)) else (none))
def laws_FnSumAlarms.j3 : Nat → List Int → Int → Int → List Int → Int → Int → Bool → Option (Bool)
  | 0, _, _, _, _, _, _, _ => none
  | k + 1, x5, x6, x7, x8, x10, x11, x105 => if x105 = true then (some false) else (laws_FnSumAlarms.l2 k x5 x6 x7 x8 x11 0 x10)
def laws_FnSumAlarms.l2 : Nat → List Int → Int → Int → List Int → Int → Int → Int → Option (Bool)
  | 0, _, _, _, _, _, _, _ => none
  | k + 1, x5, x6, x7, x8, x11, x18, x19 => if x19 ≤ x11 then (if 0 ≤ x19 then (if x19 < (x5.length : Int) then (laws_FnSumAlarms.l2 k x5 x6 x7 x8 x11 (wrap64 (x18 + (wrap64 ((rd x5 x19) - x6)))) (wrap64 (x19 + 1))) else (none)) else (none)) else (if x18 > x7 then (if 0 ≤ x11 then (if x11 < (x8.length : Int) then (some (x18 == (rd x8 x11))) else (none)) else (none)) else (some false))
end
def laws_FnSumAlarms.f (k : Nat) (l0 : List Int) (l1 : List Int) : Option (Bool) := (laws_r8Long.f l0 l1).bind fun t370 => (if t370 = true then (some true) else ((spec_R8Balance.f k l0).bind fun t371 => ((laws_r8At.f l1 0 12).bind fun t374 => ((laws_r8At.f l1 1 30).bind fun t375 => ((impl_SumsOf.f k t371 t374).bind fun bt376 => ((impl_AlarmOf.f k t371 t374 t375).bind fun bt380 => (if bt376.2 = true then (laws_FnSumAlarms.j0 k t371 t374 t375 bt376.1 bt380.1 bt380.2.1 bt380.2.2 ((bt376.1.length : Int) != (t371.length : Int))) else (laws_FnSumAlarms.j0 k t371 t374 t375 bt376.1 bt380.1 bt380.2.1 bt380.2.2 true))))))))
theorem laws_FnSumAlarms.mono_l : ∀ k, (∀ y0 y1 y2 y3 y4 y5 y6 y7, LeO (laws_FnSumAlarms.j0 k y0 y1 y2 y3 y4 y5 y6 y7) (laws_FnSumAlarms.j0 (k + 1) y0 y1 y2 y3 y4 y5 y6 y7)) ∧ (∀ y0 y1 y2 y3 y4 y5 y6 y7 y8, LeO (laws_FnSumAlarms.l0 k y0 y1 y2 y3 y4 y5 y6 y7 y8) (laws_FnSumAlarms.l0 (k + 1) y0 y1 y2 y3 y4 y5 y6 y7 y8)) ∧ (∀ y0 y1 y2 y3 y4 y5 y6 y7 y8 y9 y10 y11, LeO (laws_FnSumAlarms.l1 k y0 y1 y2 y3 y4 y5 y6 y7 y8 y9 y10 y11) (laws_FnSumAlarms.l1 (k + 1) y0 y1 y2 y3 y4 y5 y6 y7 y8 y9 y10 y11)) ∧ (∀ y0 y1 y2 y3 y4 y5 y6, LeO (laws_FnSumAlarms.j3 k y0 y1 y2 y3 y4 y5 y6) (laws_FnSumAlarms.j3 (k + 1) y0 y1 y2 y3 y4 y5 y6)) ∧ (∀ y0 y1 y2 y3 y4 y5 y6, LeO (laws_FnSumAlarms.l2 k y0 y1 y2 y3 y4 y5 y6) (laws_FnSumAlarms.l2 (k + 1) y0 y1 y2 y3 y4 y5 y6))
  | 0 => ⟨fun _ _ _ _ _ _ _ _ r h => by simp [laws_FnSumAlarms.j0] at h, fun _ _ _ _ _ _ _ _ _ r h => by simp [laws_FnSumAlarms.l0] at h, fun _ _ _ _ _ _ _ _ _ _ _ _ r h => by simp [laws_FnSumAlarms.l1] at h, fun _ _ _ _ _ _ _ r h => by simp [laws_FnSumAlarms.j3] at h, fun _ _ _ _ _ _ _ r h => by simp [laws_FnSumAlarms.l2] at h⟩
  | k + 1 => by
    obtain ⟨ih0, ih1, ih2, ih3, ih4⟩ := laws_FnSumAlarms.mono_l k
    refine ⟨?_, ?_, ?_, ?_, ?_⟩
    · intro y0 y1 y2 y3 y4 y5 y6 y7
      unfold laws_FnSumAlarms.j0
      repeat' first
      | (with_reducible exact ih0 _ _ _ _ _ _ _ _)
      | (with_reducible exact ih1 _ _ _ _ _ _ _ _ _)
      | (with_reducible exact ih2 _ _ _ _ _ _ _ _ _ _ _ _)
      | (with_reducible exact ih3 _ _ _ _ _ _ _)
      | (with_reducible exact ih4 _ _ _ _ _ _ _)
      | (with_reducible exact impl_AlarmOf.mono _ _ _ _)
      | (with_reducible exact impl_SumsOf.mono _ _ _)
      | (with_reducible exact spec_R8Balance.mono _ _)
      | (with_reducible exact LeO.refl _)
      | (with_reducible exact LeO.none _)
      | (with_reducible refine LeO.ite ?_ ?_)
      | (with_reducible refine LeO.bind ?_ (fun _ => ?_))
      | exact ih0 _ _ _ _ _ _ _ _
      | exact ih1 _ _ _ _ _ _ _ _ _
      | exact ih2 _ _ _ _ _ _ _ _ _ _ _ _
      | exact ih3 _ _ _ _ _ _ _
      | exact ih4 _ _ _ _ _ _ _
      | exact impl_AlarmOf.mono _ _ _ _
      | exact impl_SumsOf.mono _ _ _
      | exact spec_R8Balance.mono _ _
      | exact LeO.none _
      | refine LeO.ite ?_ ?_
      | refine LeO.bind ?_ (fun _ => ?_)
    · intro y0 y1 y2 y3 y4 y5 y6 y7 y8
      unfold laws_FnSumAlarms.l0
      repeat' first
      | (with_reducible exact ih0 _ _ _ _ _ _ _ _)
      | (with_reducible exact ih1 _ _ _ _ _ _ _ _ _)
      | (with_reducible exact ih2 _ _ _ _ _ _ _ _ _ _ _ _)
      | (with_reducible exact ih3 _ _ _ _ _ _ _)
      | (with_reducible exact ih4 _ _ _ _ _ _ _)
      | (with_reducible exact impl_AlarmOf.mono _ _ _ _)
      | (with_reducible exact impl_SumsOf.mono _ _ _)
      | (with_reducible exact spec_R8Balance.mono _ _)
      | (with_reducible exact LeO.refl _)
      | (with_reducible exact LeO.none _)
      | (with_reducible refine LeO.ite ?_ ?_)
      | (with_reducible refine LeO.bind ?_ (fun _ => ?_))
      | exact ih0 _ _ _ _ _ _ _ _
      | exact ih1 _ _ _ _ _ _ _ _ _
      | exact ih2 _ _ _ _ _ _ _ _ _ _ _ _
      | exact ih3 _ _ _ _ _ _ _
      | exact ih4 _ _ _ _ _ _ _
      | exact impl_AlarmOf.mono _ _ _ _
      | exact impl_SumsOf.mono _ _ _
      | exact spec_R8Balance.mono _ _
      | exact LeO.none _
      | refine LeO.ite ?_ ?_
      | refine LeO.bind ?_ (fun _ => ?_)
    · intro y0 y1 y2 y3 y4 y5 y6 y7 y8 y9 y10 y11
      unfold laws_FnSumAlarms.l1
      repeat' first
      | (with_reducible exact ih0 _ _ _ _ _ _ _ _)
      | (with_reducible exact ih1 _ _ _ _ _ _ _ _ _)
      | (with_reducible exact ih2 _ _ _ _ _ _ _ _ _ _ _ _)
      | (with_reducible exact ih3 _ _ _ _ _ _ _)
      | (with_reducible exact ih4 _ _ _ _ _ _ _)
      | (with_reducible exact impl_AlarmOf.mono _ _ _ _)
      | (with_reducible exact impl_SumsOf.mono _ _ _)
      | (with_reducible exact spec_R8Balance.mono _ _)
      | (with_reducible exact LeO.refl _)
      | (with_reducible exact LeO.none _)
      | (with_reducible refine LeO.ite ?_ ?_)
      | (with_reducible refine LeO.bind ?_ (fun _ => ?_))
      | exact ih0 _ _ _ _ _ _ _ _
      | exact ih1 _ _ _ _ _ _ _ _ _
      | exact ih2 _ _ _ _ _ _ _ _ _ _ _ _
      | exact ih3 _ _ _ _ _ _ _
      | exact ih4 _ _ _ _ _ _ _
      | exact impl_AlarmOf.mono _ _ _ _
      | exact impl_SumsOf.mono _ _ _
      | exact spec_R8Balance.mono _ _
      | exact LeO.none _
      | refine LeO.ite ?_ ?_
      | refine LeO.bind ?_ (fun _ => ?_)
    · intro y0 y1 y2 y3 y4 y5 y6
      unfold laws_FnSumAlarms.j3
      repeat' first
      | (with_reducible exact ih0 _ _ _ _ _ _ _ _)
      | (with_reducible exact ih1 _ _ _ _ _ _ _ _ _)
      | (with_reducible exact ih2 _ _ _ _ _ _ _ _ _ _ _ _)
      | (with_reducible exact ih3 _ _ _ _ _ _ _)
      | (with_reducible exact ih4 _ _ _ _ _ _ _)
      | (with_reducible exact impl_AlarmOf.mono _ _ _ _)
      | (with_reducible exact impl_SumsOf.mono _ _ _)
      | (with_reducible exact spec_R8Balance.mono _ _)
      | (with_reducible exact LeO.refl _)
      | (with_reducible exact LeO.none _)
      | (with_reducible refine LeO.ite ?_ ?_)
      | (with_reducible refine LeO.bind ?_ (fun _ => ?_))
      | exact ih0 _ _ _ _ _ _ _ _
      | exact ih1 _ _ _ _ _ _ _ _ _
      | exact ih2 _ _ _ _ _ _ _ _ _ _ _ _
      | exact ih3 _ _ _ _ _ _ _
      | exact ih4 _ _ _ _ _ _ _
      | exact impl_AlarmOf.mono _ _ _ _
      | exact impl_SumsOf.mono _ _ _
      | exact spec_R8Balance.mono _ _
      | exact LeO.none _
      | refine LeO.ite ?_ ?_
      | refine LeO.bind ?_ (fun _ => ?_)
    · intro y0 y1 y2 y3 y4 y5 y6
      unfold laws_FnSumAlarms.l2
      repeat' first
      | (with_reducible exact ih0 _ _ _ _ _ _ _ _)
      | (with_reducible exact ih1 _ _ _ _ _ _ _ _ _)
      | (with_reducible exact ih2 _ _ _ _ _ _ _ _ _ _ _ _)
      | (with_reducible exact ih3 _ _ _ _ _ _ _)
      | (with_reducible exact ih4 _ _ _ _ _ _ _)
      | (with_reducible exact impl_AlarmOf.mono _ _ _ _)
      | (with_reducible exact impl_SumsOf.mono _ _ _)
      | (with_reducible exact spec_R8Balance.mono _ _)
      | (with_reducible exact LeO.refl _)
      | (with_reducible exact LeO.none _)
      | (with_reducible refine LeO.ite ?_ ?_)
      | (with_reducible refine LeO.bind ?_ (fun _ => ?_))
      | exact ih0 _ _ _ _ _ _ _ _
      | exact ih1 _ _ _ _ _ _ _ _ _
      | exact ih2 _ _ _ _ _ _ _ _ _ _ _ _
      | exact ih3 _ _ _ _ _ _ _
      | exact ih4 _ _ _ _ _ _ _
      | exact impl_AlarmOf.mono _ _ _ _
      | exact impl_SumsOf.mono _ _ _
      | exact spec_R8Balance.mono _ _
      | exact LeO.none _
      | refine LeO.ite ?_ ?_
      | refine LeO.bind ?_ (fun _ => ?_)
theorem laws_FnSumAlarms.mono : ∀ a0 a1 k, LeO (laws_FnSumAlarms.f k a0 a1) (laws_FnSumAlarms.f (k + 1) a0 a1) := by
  intro a0 a1 k
  obtain ⟨ih0, ih1, ih2, ih3, ih4⟩ := laws_FnSumAlarms.mono_l k
  unfold laws_FnSumAlarms.f
  repeat' first
      | (with_reducible exact ih0 _ _ _ _ _ _ _ _)
      | (with_reducible exact ih1 _ _ _ _ _ _ _ _ _)
      | (with_reducible exact ih2 _ _ _ _ _ _ _ _ _ _ _ _)
      | (with_reducible exact ih3 _ _ _ _ _ _ _)
      | (with_reducible exact ih4 _ _ _ _ _ _ _)
      | (with_reducible exact impl_AlarmOf.mono _ _ _ _)
      | (with_reducible exact impl_SumsOf.mono _ _ _)
      | (with_reducible exact spec_R8Balance.mono _ _)
      | (with_reducible exact LeO.refl _)
      | (with_reducible exact LeO.none _)
      | (with_reducible refine LeO.ite ?_ ?_)
      | (with_reducible refine LeO.bind ?_ (fun _ => ?_))
      | exact ih0 _ _ _ _ _ _ _ _
      | exact ih1 _ _ _ _ _ _ _ _ _
      | exact ih2 _ _ _ _ _ _ _ _ _ _ _ _
      | exact ih3 _ _ _ _ _ _ _
      | exact ih4 _ _ _ _ _ _ _
      | exact impl_AlarmOf.mono _ _ _ _
      | exact impl_SumsOf.mono _ _ _
      | exact spec_R8Balance.mono _ _
      | exact LeO.none _
      | refine LeO.ite ?_ ?_
      | refine LeO.bind ?_ (fun _ => ?_)
set_option maxHeartbeats 8000000 in
set_option maxRecDepth 100000 in
theorem laws_FnSumAlarms.calls (k : Nat) (A0 : Option Addr) (c0 : Nat) (l0 : List Int) (A1 : Option Addr) (c1 : Nat) (l1 : List Int) (r : Bool) (w : World) (hr0 : Kd.C (Kd.int .u8) w A0 l0.length l0) (hc0 : l0.length ≤ c0) (hr1 : Kd.C (Kd.int .u8) w A1 l1.length l1) (hc1 : l1.length ≤ c1) (h : laws_FnSumAlarms.f k l0 l1 = some r) :
    Calls Try.prog 9 #[.slice A0 l0.length c0, .slice A1 l1.length c1] w fun e w' => e = .returned (.bool r) ∧ Below w.heap.size w w' := by
  have HR0 := Aside0.mk hr0
  have HC0 := Aside0.mk hc0
  clear hr0 hc0
  have HR1 := Aside0.mk hr1
  have HC1 := Aside0.mk hc1
  clear hr1 hc1
  have HB := Aside0.mk (Below.refl w.heap.size w)
  have H : ((laws_r8Long.f l0 l1).bind fun t370 => (if t370 = true then (some true) else ((spec_R8Balance.f k l0).bind fun t371 => ((laws_r8At.f l1 0 12).bind fun t374 => ((laws_r8At.f l1 1 30).bind fun t375 => ((impl_SumsOf.f k t371 t374).bind fun bt376 => ((impl_AlarmOf.f k t371 t374 t375).bind fun bt380 => (if bt376.2 = true then (laws_FnSumAlarms.j0 k t371 t374 t375 bt376.1 bt380.1 bt380.2.1 bt380.2.2 ((bt376.1.length : Int) != (t371.length : Int))) else (laws_FnSumAlarms.j0 k t371 t374 t375 bt376.1 bt380.1 bt380.2.1 bt380.2.2 true))))))))) = some r := h
  clear h
  replace H := Option.bind_eq_some_iff.mp H
  obtain ⟨t370, A30, H⟩ := H
  replace H : (if t370 = true then (some true) else ((spec_R8Balance.f k l0).bind fun t371 => ((laws_r8At.f l1 0 12).bind fun t374 => ((laws_r8At.f l1 1 30).bind fun t375 => ((impl_SumsOf.f k t371 t374).bind fun bt376 => ((impl_AlarmOf.f k t371 t374 t375).bind fun bt380 => (if bt376.2 = true then (laws_FnSumAlarms.j0 k t371 t374 t375 bt376.1 bt380.1 bt380.2.1 bt380.2.2 ((bt376.1.length : Int) != (t371.length : Int))) else (laws_FnSumAlarms.j0 k t371 t374 t375 bt376.1 bt380.1 bt380.2.1 bt380.2.2 true)))))))) = some r := H
  have A3 := Aside0.mk A30
  clear A30
  by_cases c4 : t370 = true
  · subst c4
    have H1 : (some true) = some r := by rw [if_pos rfl] at H; exact H
    clear H
    have H := H1
    clear H1
    obtain rfl := Option.some.inj H
    go_enter Try.func9, Try.ntmps9
    go_wp2_with (first | ((with_reducible refine gate_callee (f := 22) rfl ?_); refine goesL_ (some 22) rfl rfl Try.func22 (by kernel_rfl) rfl #[.slice A0 l0.length c0, .slice A1 l1.length c1] rfl (by (try simp only [List.map_toArray, List.map_cons, List.map_nil]); first | done | rfl | (simp only [List.length_drop, List.length_take]; rfl)) ?_; (with_reducible refine (laws_r8Long.calls _ _ l0 _ _ l1 true _ ?side1 ?side2 ?side3 ?side4 A3.out).mono ?_); (case side1 => repeat (first | exact HR0.out | (with_reducible refine Kd.C_alloc ?_ _) | (with_reducible refine Kd.C_drewN ?_ _) | (with_reducible refine Kd.C_drew ?_))); (case side2 => exact HC0.out); (case side3 => repeat (first | exact HR1.out | (with_reducible refine Kd.C_alloc ?_ _) | (with_reducible refine Kd.C_drewN ?_ _) | (with_reducible refine Kd.C_drew ?_))); (case side4 => exact HC1.out); rintro e w' ⟨rfl, ⟨nd, rfl⟩⟩; refine ⟨_, rfl, ?_⟩))
    go_ret
    exact ⟨by first | rfl | (simp [errW_none, errW_some] <;> rfl) | (simp [*, errW_none, errW_some] <;> rfl), by repeat (first | (with_reducible first | exact HB.out | apply below_alloc | apply pw_below_drewN | apply below_drew1) | exact HB.out)⟩
  · replace c4 := Bool.eq_false_iff.mpr c4
    subst c4
    have H1 : ((spec_R8Balance.f k l0).bind fun t371 => ((laws_r8At.f l1 0 12).bind fun t374 => ((laws_r8At.f l1 1 30).bind fun t375 => ((impl_SumsOf.f k t371 t374).bind fun bt376 => ((impl_AlarmOf.f k t371 t374 t375).bind fun bt380 => (if bt376.2 = true then (laws_FnSumAlarms.j0 k t371 t374 t375 bt376.1 bt380.1 bt380.2.1 bt380.2.2 ((bt376.1.length : Int) != (t371.length : Int))) else (laws_FnSumAlarms.j0 k t371 t374 t375 bt376.1 bt380.1 bt380.2.1 bt380.2.2 true))))))) = some r := by rw [if_neg (show ¬ (false = true) by decide)] at H; exact H
    clear H
    have H := H1
    clear H1
    replace H := Option.bind_eq_some_iff.mp H
    obtain ⟨t371, A50, H⟩ := H
    replace H : ((laws_r8At.f l1 0 12).bind fun t374 => ((laws_r8At.f l1 1 30).bind fun t375 => ((impl_SumsOf.f k t371 t374).bind fun bt376 => ((impl_AlarmOf.f k t371 t374 t375).bind fun bt380 => (if bt376.2 = true then (laws_FnSumAlarms.j0 k t371 t374 t375 bt376.1 bt380.1 bt380.2.1 bt380.2.2 ((bt376.1.length : Int) != (t371.length : Int))) else (laws_FnSumAlarms.j0 k t371 t374 t375 bt376.1 bt380.1 bt380.2.1 bt380.2.2 true)))))) = some r := H
    have A5 := Aside0.mk A50
    clear A50
    replace H := Option.bind_eq_some_iff.mp H
    obtain ⟨t374, A60, H⟩ := H
    replace H : ((laws_r8At.f l1 1 30).bind fun t375 => ((impl_SumsOf.f k t371 t374).bind fun bt376 => ((impl_AlarmOf.f k t371 t374 t375).bind fun bt380 => (if bt376.2 = true then (laws_FnSumAlarms.j0 k t371 t374 t375 bt376.1 bt380.1 bt380.2.1 bt380.2.2 ((bt376.1.length : Int) != (t371.length : Int))) else (laws_FnSumAlarms.j0 k t371 t374 t375 bt376.1 bt380.1 bt380.2.1 bt380.2.2 true))))) = some r := H
    have A6 := Aside0.mk A60
    clear A60
    replace H := Option.bind_eq_some_iff.mp H
    obtain ⟨t375, A70, H⟩ := H
    replace H : ((impl_SumsOf.f k t371 t374).bind fun bt376 => ((impl_AlarmOf.f k t371 t374 t375).bind fun bt380 => (if bt376.2 = true then (laws_FnSumAlarms.j0 k t371 t374 t375 bt376.1 bt380.1 bt380.2.1 bt380.2.2 ((bt376.1.length : Int) != (t371.length : Int))) else (laws_FnSumAlarms.j0 k t371 t374 t375 bt376.1 bt380.1 bt380.2.1 bt380.2.2 true)))) = some r := H
    have A7 := Aside0.mk A70
    clear A70
    replace H := Option.bind_eq_some_iff.mp H
    obtain ⟨⟨t376, t377⟩, A80, H⟩ := H
    replace H : ((impl_AlarmOf.f k t371 t374 t375).bind fun bt380 => (if t377 = true then (laws_FnSumAlarms.j0 k t371 t374 t375 t376 bt380.1 bt380.2.1 bt380.2.2 ((t376.length : Int) != (t371.length : Int))) else (laws_FnSumAlarms.j0 k t371 t374 t375 t376 bt380.1 bt380.2.1 bt380.2.2 true))) = some r := H
    have A8 := Aside0.mk A80
    clear A80
    replace H := Option.bind_eq_some_iff.mp H
    obtain ⟨⟨t380, t381, t382⟩, A90, H⟩ := H
    replace H : (if t377 = true then (laws_FnSumAlarms.j0 k t371 t374 t375 t376 t380 t381 t382 ((t376.length : Int) != (t371.length : Int))) else (laws_FnSumAlarms.j0 k t371 t374 t375 t376 t380 t381 t382 true)) = some r := H
    have A9 := Aside0.mk A90
    clear A90
    have HC10 := Aside0.mk H
    clear H
    go_enter Try.func9, Try.ntmps9
    go_upto_region 8 with (first | ((with_reducible refine gate_callee (f := 22) rfl ?_); refine goesL_ (some 22) rfl rfl Try.func22 (by kernel_rfl) rfl #[.slice A0 l0.length c0, .slice A1 l1.length c1] rfl (by (try simp only [List.map_toArray, List.map_cons, List.map_nil]); first | done | rfl | (simp only [List.length_drop, List.length_take]; rfl)) ?_; (with_reducible refine (laws_r8Long.calls _ _ l0 _ _ l1 false _ ?side1 ?side2 ?side3 ?side4 A3.out).mono ?_); (case side1 => repeat (first | exact HR0.out | (with_reducible refine Kd.C_alloc ?_ _) | (with_reducible refine Kd.C_drewN ?_ _) | (with_reducible refine Kd.C_drew ?_))); (case side2 => exact HC0.out); (case side3 => repeat (first | exact HR1.out | (with_reducible refine Kd.C_alloc ?_ _) | (with_reducible refine Kd.C_drewN ?_ _) | (with_reducible refine Kd.C_drew ?_))); (case side4 => exact HC1.out); rintro e w' ⟨rfl, ⟨nd, rfl⟩⟩; refine ⟨_, rfl, ?_⟩) | ((with_reducible refine gate_callee (f := 23) rfl ?_); refine goesL_ (some 24) rfl rfl Try.func23 (by kernel_rfl) rfl #[.slice A0 l0.length c0] rfl (by (try simp only [List.map_toArray, List.map_cons, List.map_nil]); first | done | rfl | (simp only [List.length_drop, List.length_take]; rfl)) ?_; (with_reducible refine (spec_R8Balance.calls k _ _ l0 t371 _ ?side1 ?side2 A5.out).mono ?_); (case side1 => repeat (first | exact HR0.out | (with_reducible refine Kd.C_alloc ?_ _) | (with_reducible refine Kd.C_drewN ?_ _) | (with_reducible refine Kd.C_drew ?_))); (case side2 => exact HC0.out); rintro e w11 ⟨v372, rfl, ho0, hb⟩; refine ⟨_, rfl, ?_⟩; have n0_ := Aside0.mk (Kd.R_lower ho0 (below_size (by repeat (first | (with_reducible first | exact HB.out | apply below_alloc | apply pw_below_drewN | apply below_drew1) | exact HB.out)))); have n1_ := Aside0.mk (below_step (by repeat (first | (with_reducible first | exact HB.out | apply below_alloc | apply pw_below_drewN | apply below_drew1) | exact HB.out)) hb); clear HB; have HO373 := n0_; have HB := n1_; clear n0_ n1_; (try clear hb); (try clear hb2); (try clear hk); (try clear hi); (try clear ho0)) | ((with_reducible refine gate_callee (f := 24) rfl ?_); refine goesL_ (some 26) rfl rfl Try.func24 (by kernel_rfl) rfl #[.slice A1 l1.length c1, .int .i64 0, .int .i64 12] rfl (by (try simp only [List.map_toArray, List.map_cons, List.map_nil]); first | done | rfl | (simp only [List.length_drop, List.length_take]; rfl)) ?_; (with_reducible refine (laws_r8At.calls _ _ l1 0 12 t374 _ ?side1 ?side2 A6.out).mono ?_); (case side1 => repeat (first | exact (Kd.C_below HR1.out HB.out) | (with_reducible refine Kd.C_alloc ?_ _) | (with_reducible refine Kd.C_drewN ?_ _) | (with_reducible refine Kd.C_drew ?_))); (case side2 => exact HC1.out); rintro e w' ⟨rfl, ⟨nd, rfl⟩⟩; refine ⟨_, rfl, ?_⟩) | ((with_reducible refine gate_callee (f := 24) rfl ?_); refine goesL_ (some 28) rfl rfl Try.func24 (by kernel_rfl) rfl #[.slice A1 l1.length c1, .int .i64 1, .int .i64 30] rfl (by (try simp only [List.map_toArray, List.map_cons, List.map_nil]); first | done | rfl | (simp only [List.length_drop, List.length_take]; rfl)) ?_; (with_reducible refine (laws_r8At.calls _ _ l1 1 30 t375 _ ?side1 ?side2 A7.out).mono ?_); (case side1 => repeat (first | exact (Kd.C_below HR1.out (by repeat (first | (with_reducible first | exact HB.out | apply below_alloc | apply pw_below_drewN | apply below_drew1) | exact HB.out))) | (with_reducible refine Kd.C_alloc ?_ _) | (with_reducible refine Kd.C_drewN ?_ _) | (with_reducible refine Kd.C_drew ?_))); (case side2 => exact HC1.out); rintro e w' ⟨rfl, ⟨nd, rfl⟩⟩; refine ⟨_, rfl, ?_⟩; obtain ⟨Ao12, co12, eo12⟩ := Kd.R_slice HO373.out; subst eo12) | ((with_reducible refine gate_callee (f := 19) rfl ?_); refine goesL_ (some 32) rfl rfl Try.func19 (by kernel_rfl) rfl #[.slice Ao12 t371.length co12, .int .i64 t374] rfl (by (try simp only [List.map_toArray, List.map_cons, List.map_nil]); first | done | rfl | (simp only [List.length_drop, List.length_take]; rfl)) ?_; (with_reducible refine (impl_SumsOf.calls k _ _ t371 t374 t376 t377 _ ?side1 ?side2 A8.out).mono ?_); (case side1 => repeat (first | exact (Kd.R_reads' HO373.out).2.2 | (with_reducible refine Kd.C_alloc ?_ _) | (with_reducible refine Kd.C_drewN ?_ _) | (with_reducible refine Kd.C_drew ?_))); (case side2 => exact (Kd.R_reads' HO373.out).2.1); rintro e w13 ⟨v378, rfl, ho0, hb⟩; refine ⟨_, rfl, ?_⟩; have n0_ := Aside0.mk (Kd.R_elder' (by (with_reducible repeat (first | apply Kd.R_alloc | apply Kd.R_drewN | apply Kd.R_drew)); exact HO373.out) (Kd.R_base ho0) hb); have n1_ := Aside0.mk (Kd.R_lower (Kd.R_new' ho0 (Kd.R_lt (by (with_reducible repeat (first | apply Kd.R_alloc | apply Kd.R_drewN | apply Kd.R_drew)); exact HO373.out))) (below_size (by repeat (first | (with_reducible first | exact HB.out | apply below_alloc | apply pw_below_drewN | apply below_drew1) | exact HB.out)))); have n2_ := Aside0.mk (below_step (by repeat (first | (with_reducible first | exact HB.out | apply below_alloc | apply pw_below_drewN | apply below_drew1) | exact HB.out)) hb); clear HO373; clear HB; have HO373 := n0_; have HO379 := n1_; have HB := n2_; clear n0_ n1_ n2_; (try clear hb); (try clear hb2); (try clear hk); (try clear hi); (try clear ho0)) | ((with_reducible refine gate_callee (f := 21) rfl ?_); refine goesL_ (some 39) rfl rfl Try.func21 (by kernel_rfl) rfl #[.slice Ao12 t371.length co12, .int .i64 t374, .int .i64 t375] rfl (by (try simp only [List.map_toArray, List.map_cons, List.map_nil]); first | done | rfl | (simp only [List.length_drop, List.length_take]; rfl)) ?_; (with_reducible refine (impl_AlarmOf.calls k _ _ t371 t374 t375 t380 t381 t382 _ ?side1 ?side2 A9.out).mono ?_); (case side1 => repeat (first | exact (Kd.R_reads' HO373.out).2.2 | (with_reducible refine Kd.C_alloc ?_ _) | (with_reducible refine Kd.C_drewN ?_ _) | (with_reducible refine Kd.C_drew ?_))); (case side2 => exact (Kd.R_reads' HO373.out).2.1); rintro e w14 ⟨rfl, hb⟩; refine ⟨_, rfl, ?_⟩; have n0_ := Aside0.mk (Kd.R_below (by (with_reducible repeat (first | apply Kd.R_alloc | apply Kd.R_drewN | apply Kd.R_drew)); exact HO373.out) hb); have n1_ := Aside0.mk (Kd.R_below (by (with_reducible repeat (first | apply Kd.R_alloc | apply Kd.R_drewN | apply Kd.R_drew)); exact HO379.out) hb); have n2_ := Aside0.mk (below_step (by repeat (first | (with_reducible first | exact HB.out | apply below_alloc | apply pw_below_drewN | apply below_drew1) | exact HB.out)) hb); clear HO373; clear HO379; clear HB; have HO373 := n0_; have HO379 := n1_; have HB := n2_; clear n0_ n1_ n2_; (try clear hb); (try clear hb2); (try clear hk); (try clear hi)))
    (try simp only [Act.put, List.setIfInBounds_toArray, List.set_cons_zero, List.set_cons_succ])
    go_cut [51] (fun v51 wc => ∃ (kq : Nat) (x51_9 : Bool), v51 = .bool x51_9 ∧ Aside0 (laws_FnSumAlarms.j0 kq t371 t374 t375 t376 t380 t381 t382 x51_9 = some r) ∧ Aside0 (kq ≤ k) ∧ Aside0 (Kd.R (Kd.int .i64) 2 wc w.heap.size (fun k_ => some k_ ≠ (v378 : Value).ownBlock) (.slice Ao12 t371.length co12) t371) ∧ Aside0 (Kd.R (Kd.int .i64) 2 wc w.heap.size (fun k_ => some k_ ≠ ((.slice Ao12 t371.length co12) : Value).ownBlock) v378 t376) ∧ Aside0 (Below w.heap.size w wc))
    case first =>
      have H := HC10.out
      clear HC10
      by_cases c15 : t377 = true
      · subst c15
        have H1 : (laws_FnSumAlarms.j0 k t371 t374 t375 t376 t380 t381 t382 ((t376.length : Int) != (t371.length : Int))) = some r := by rw [if_pos rfl] at H; exact H
        clear H
        have H := H1
        clear H1
        have H' := Aside0.mk H
        clear H
        obtain ⟨Ao16, co16, eo16⟩ := Kd.R_slice HO379.out
        subst eo16
        go_wp2
        go_meet
        case rel => exact ⟨_, (((t376.length : Int) != (t371.length : Int))), (by first | rfl | (simp; done) | (simp [*]; done)), H', ⟨by first | omega | exact Nat.le_refl _⟩, ⟨by (with_reducible repeat (first | apply Kd.R_alloc | apply Kd.R_drewN | apply Kd.R_drew)); exact Kd.R_mono HO373.out (fun _ hk => hk.2)⟩, ⟨by (with_reducible repeat (first | apply Kd.R_alloc | apply Kd.R_drewN | apply Kd.R_drew)); exact Kd.R_mono HO379.out (fun _ hk => hk.2)⟩, ⟨by repeat (first | (with_reducible first | exact HB.out | apply below_alloc | apply pw_below_drewN | apply below_drew1) | exact HB.out)⟩⟩
      · replace c15 := Bool.eq_false_iff.mpr c15
        subst c15
        have H1 : (laws_FnSumAlarms.j0 k t371 t374 t375 t376 t380 t381 t382 true) = some r := by rw [if_neg (show ¬ (false = true) by decide)] at H; exact H
        clear H
        have H := H1
        clear H1
        have H' := Aside0.mk H
        clear H
        go_wp2
        go_meet
        case rel => exact ⟨_, (true), (by first | rfl | (simp; done) | (simp [*]; done)), H', ⟨by first | omega | exact Nat.le_refl _⟩, ⟨by (with_reducible repeat (first | apply Kd.R_alloc | apply Kd.R_drewN | apply Kd.R_drew)); exact Kd.R_mono HO373.out (fun _ hk => hk.2)⟩, ⟨by (with_reducible repeat (first | apply Kd.R_alloc | apply Kd.R_drewN | apply Kd.R_drew)); exact Kd.R_mono HO379.out (fun _ hk => hk.2)⟩, ⟨by repeat (first | (with_reducible first | exact HB.out | apply below_alloc | apply pw_below_drewN | apply below_drew1) | exact HB.out)⟩⟩
    case rest =>
      clear HC10
      try clear c1
      try clear c2
      try clear p2
      try clear c4
      try clear c9
      try clear c15
      obtain ⟨kq, x51_9, rfl, HA, HJ9, HO_5, HO_8, HB⟩ := hcut
      cases kq with
      | zero => exact absurd HA.out (by simp [laws_FnSumAlarms.j0])
      | succ kj9 =>
        have H := HA.out
        clear HA
        simp only [laws_FnSumAlarms.j0] at H
        by_cases c17 : x51_9 = true
        · subst c17
          have H1 : (some false) = some r := by rw [if_pos rfl] at H; exact H
          clear H
          have H := H1
          clear H1
          obtain rfl := Option.some.inj H
          go_wp2
          go_ret
          exact ⟨by first | rfl | (simp [errW_none, errW_some] <;> rfl) | (simp [*, errW_none, errW_some] <;> rfl), by repeat (first | (with_reducible first | exact HB.out | apply below_alloc | apply pw_below_drewN | apply below_drew1) | exact HB.out)⟩
        · replace c17 := Bool.eq_false_iff.mpr c17
          subst c17
          have H1 : (laws_FnSumAlarms.l0 kj9 t371 t374 t375 t376 t380 t381 t382 (-1) 0) = some r := by rw [if_neg (show ¬ (false = true) by decide)] at H; exact H
          clear H
          have H := H1
          clear H1
          have H' := Aside0.mk H
          clear H
          go_wp2
          go_loopg [13, 14] kj9 (fun kq v13 v14 w' => ∃ (x13_2 : Int) (x14_2 : Int), v13 = .int .i64 x13_2 ∧ v14 = .int .i64 x14_2 ∧ Aside0 (laws_FnSumAlarms.l0 kq t371 t374 t375 t376 t380 t381 t382 x13_2 x14_2 = some r) ∧ Aside0 (kq ≤ kj9) ∧ Aside0 (Kd.R (Kd.int .i64) 2 w' w.heap.size (fun k_ => some k_ ≠ (v378 : Value).ownBlock) (.slice Ao12 t371.length co12) t371) ∧ Aside0 (Kd.R (Kd.int .i64) 2 w' w.heap.size (fun k_ => some k_ ≠ ((.slice Ao12 t371.length co12) : Value).ownBlock) v378 t376) ∧ Aside0 (Below w.heap.size w w'))
          case atStart => exact ⟨((-1)), (0), (by first | rfl | (simp; done) | (simp [*]; done)), (by first | rfl | (simp; done) | (simp [*]; done)), H', ⟨Nat.le_refl _⟩, ⟨by (with_reducible repeat (first | apply Kd.R_alloc | apply Kd.R_drewN | apply Kd.R_drew)); exact HO_5.out⟩, ⟨by (with_reducible repeat (first | apply Kd.R_alloc | apply Kd.R_drewN | apply Kd.R_drew)); exact HO_8.out⟩, ⟨by repeat (first | (with_reducible first | exact HB.out | apply below_alloc | apply pw_below_drewN | apply below_drew1) | exact HB.out)⟩⟩
          case round =>
            clear H'
            try clear c1
            try clear c2
            try clear p2
            try clear c4
            try clear c9
            try clear c15
            try clear c17
            try clear p2
            obtain ⟨x13_2, x14_2, rfl, rfl, HA, HK2, HO_5, HO_8, HB⟩ := hrel
            cases gk with
            | zero => exact absurd HA.out (by simp [laws_FnSumAlarms.l0])
            | succ k2 =>
              have H := HA.out
              clear HA
              simp only [laws_FnSumAlarms.l0] at H
              by_cases c18 : x14_2 < (t371.length : Int)
              · rw [if_pos c18] at H
                have c18b0 : decide (x14_2 < (t371.length : Int)) = true := decide_eq_true c18
                clear c18
                have H' := Aside0.mk H
                clear H
                go_wp2
                go_loopg [15, 16, 17] k2 (fun kq v15 v16 v17 w' => ∃ (x15_3 : Int) (x16_3 : Int) (x17_3 : Int), v15 = .int .i64 x15_3 ∧ v16 = .int .i64 x16_3 ∧ v17 = .int .i64 x17_3 ∧ Aside0 (laws_FnSumAlarms.l1 kq t371 t374 t375 t376 t380 t381 t382 x13_2 x14_2 x15_3 x16_3 x17_3 = some r) ∧ Aside0 (kq ≤ k2) ∧ Aside0 (Kd.R (Kd.int .i64) 2 w' w.heap.size (fun k_ => some k_ ≠ (v378 : Value).ownBlock) (.slice Ao12 t371.length co12) t371) ∧ Aside0 (Kd.R (Kd.int .i64) 2 w' w.heap.size (fun k_ => some k_ ≠ ((.slice Ao12 t371.length co12) : Value).ownBlock) v378 t376) ∧ Aside0 (Below w.heap.size w w'))
                case atStart => exact ⟨(0), (0), (x14_2), (by first | rfl | (simp; done) | (simp [*]; done)), (by first | rfl | (simp; done) | (simp [*]; done)), (by first | rfl | (simp; done) | (simp [*]; done)), H', ⟨Nat.le_refl _⟩, ⟨by (with_reducible repeat (first | apply Kd.R_alloc | apply Kd.R_drewN | apply Kd.R_drew)); exact HO_5.out⟩, ⟨by (with_reducible repeat (first | apply Kd.R_alloc | apply Kd.R_drewN | apply Kd.R_drew)); exact HO_8.out⟩, ⟨by repeat (first | (with_reducible first | exact HB.out | apply below_alloc | apply pw_below_drewN | apply below_drew1) | exact HB.out)⟩⟩
                case round =>
                  clear H'
                  try clear c1
                  try clear c2
                  try clear p2
                  try clear c4
                  try clear c9
                  try clear c15
                  try clear c17
                  try clear c18
                  try clear c18b0
                  try clear p2
                  obtain ⟨x15_3, x16_3, x17_3, rfl, rfl, rfl, HA, HK3, HO_5, HO_8, HB⟩ := hrel
                  cases gk with
                  | zero => exact absurd HA.out (by simp [laws_FnSumAlarms.l1])
                  | succ k3 =>
                    have H := HA.out
                    clear HA
                    simp only [laws_FnSumAlarms.l1] at H
                    by_cases c19 : x17_3 ≥ 0
                    · rw [if_pos c19] at H
                      have c19b0 : decide (0 ≤ x17_3) = true := decide_eq_true c19
                      clear c19
                      by_cases c20 : 0 ≤ x17_3
                      · rw [if_pos c20] at H
                        have c20b0 : decide (0 ≤ x17_3) = true := decide_eq_true c20
                        clear c20
                        by_cases c21 : x17_3 < (t371.length : Int)
                        · rw [if_pos c21] at H
                          have c21b0 : decide (x17_3 < (t371.length : Int)) = true := decide_eq_true c21
                          clear c21
                          replace H := Option.bind_eq_some_iff.mp H
                          obtain ⟨t384, A220, H⟩ := H
                          replace H : (laws_FnSumAlarms.l1 k3 t371 t374 t375 t376 t380 t381 t382 x13_2 x14_2 t384 (wrap64 (x16_3 + (wrap64 ((rd t371 x17_3) - t374)))) (wrap64 (x17_3 - 1))) = some r := H
                          have A22 := Aside0.mk A220
                          clear A220
                          have H' := Aside0.mk H
                          clear H
                          have p383 : 0 ≤ (x17_3 : Int) := of_decide_eq_true (by first | (with_reducible assumption) | assumption)
                          have q383 : x17_3 < (t371.length : Int) := of_decide_eq_true (by first | (with_reducible assumption) | assumption)
                          obtain ⟨ad383, e383, hx383_0⟩ := Kd.at_int (Kd.R_reads' HO_5.out).2.2 x17_3 p383 q383
                          cases e383
                          replace p383 := eq_true p383
                          replace q383 := eq_true q383
                          go_wp2_with (first | ((with_reducible refine gate_callee (f := 27) rfl ?_); refine goesL_ (some 73) rfl rfl Try.func27 (by kernel_rfl) rfl #[.int .i64 x15_3, .int .i64 (wrap64 (x16_3 + (wrap64 ((rd t371 x17_3) - t374))))] rfl (by (try simp only [List.map_toArray, List.map_cons, List.map_nil]); first | done | rfl | (simp only [List.length_drop, List.length_take]; rfl)) ?_; (with_reducible refine (laws_r8Most2.calls x15_3 (wrap64 (x16_3 + (wrap64 ((rd t371 x17_3) - t374)))) t384 _ A22.out).mono ?_); rintro e w' ⟨rfl, ⟨nd, rfl⟩⟩; refine ⟨_, rfl, ?_⟩))
                          go_roundg k3
                          case measure => have := HJ9.out; have := HK2.out; have := HK3.out; omega
                          case rel => exact ⟨(t384), (wrap64 (x16_3 + (wrap64 ((rd t371 x17_3) - t374)))), (wrap64 (x17_3 - 1)), (by first | rfl | (simp; done) | (simp [*]; done)), (by first | rfl | (simp; done) | (simp [*]; done)), (by first | rfl | (simp; done) | (simp [*]; done)), H', ⟨by have := HJ9.out; have := HK2.out; have := HK3.out; omega⟩, ⟨by (with_reducible repeat (first | apply Kd.R_alloc | apply Kd.R_drewN | apply Kd.R_drew)); exact HO_5.out⟩, ⟨by (with_reducible repeat (first | apply Kd.R_alloc | apply Kd.R_drewN | apply Kd.R_drew)); exact HO_8.out⟩, ⟨by repeat (first | (with_reducible first | exact HB.out | apply below_alloc | apply pw_below_drewN | apply below_drew1) | exact HB.out)⟩⟩
                        · rw [if_neg c21] at H
                          exact absurd H (by simp)
                      · rw [if_neg c20] at H
                        exact absurd H (by simp)
                    · rw [if_neg c19] at H
                      have c19b0 : decide (0 ≤ x17_3) = false := decide_eq_false c19
                      clear c19
                      by_cases c23 : 0 ≤ x14_2
                      · rw [if_pos c23] at H
                        have c23b0 : decide (0 ≤ x14_2) = true := decide_eq_true c23
                        clear c23
                        by_cases c24 : x14_2 < (t376.length : Int)
                        · rw [if_pos c24] at H
                          have c24b0 : decide (x14_2 < (t376.length : Int)) = true := decide_eq_true c24
                          clear c24
                          by_cases c25 : (rd t376 x14_2) = x15_3
                          · rw [if_pos c25] at H
                            have c25b0 : ((rd t376 x14_2) == x15_3) = true := beq_iff_eq.mpr c25
                            have c25b1 : ((rd t376 x14_2) != x15_3) = false := bne_eq_false_iff_eq.mpr c25
                            clear c25
                            by_cases c26 : x15_3 > t375
                            · rw [if_pos c26] at H
                              have c26b0 : decide (t375 < x15_3) = true := decide_eq_true c26
                              clear c26
                              by_cases c27 : x13_2 < 0
                              · rw [if_pos c27] at H
                                have c27b0 : decide (x13_2 < 0) = true := decide_eq_true c27
                                clear c27
                                have H' := Aside0.mk H
                                clear H
                                obtain ⟨Ao28, co28, eo28⟩ := Kd.R_slice HO_8.out
                                subst eo28
                                have p385 : 0 ≤ (x14_2 : Int) := of_decide_eq_true (by first | (with_reducible assumption) | assumption)
                                have q385 : x14_2 < (t376.length : Int) := of_decide_eq_true (by first | (with_reducible assumption) | assumption)
                                obtain ⟨ad385, e385, hx385_0⟩ := Kd.at_int (Kd.R_reads' HO_8.out).2.2 x14_2 p385 q385
                                cases e385
                                replace p385 := eq_true p385
                                replace q385 := eq_true q385
                                go_wp2
                                go_roundg k3
                                case measure => have := HJ9.out; have := HK2.out; have := HK3.out; omega
                                case rel => exact ⟨(x14_2), (wrap64 (x14_2 + 1)), (by first | rfl | (simp; done) | (simp [*]; done)), (by first | rfl | (simp; done) | (simp [*]; done)), H', ⟨by have := HJ9.out; have := HK2.out; have := HK3.out; omega⟩, ⟨by (with_reducible repeat (first | apply Kd.R_alloc | apply Kd.R_drewN | apply Kd.R_drew)); exact HO_5.out⟩, ⟨by (with_reducible repeat (first | apply Kd.R_alloc | apply Kd.R_drewN | apply Kd.R_drew)); exact HO_8.out⟩, ⟨by repeat (first | (with_reducible first | exact HB.out | apply below_alloc | apply pw_below_drewN | apply below_drew1) | exact HB.out)⟩⟩
                              · rw [if_neg c27] at H
                                have c27b0 : decide (x13_2 < 0) = false := decide_eq_false c27
                                clear c27
                                have H' := Aside0.mk H
                                clear H
                                obtain ⟨Ao29, co29, eo29⟩ := Kd.R_slice HO_8.out
                                subst eo29
                                have p385 : 0 ≤ (x14_2 : Int) := of_decide_eq_true (by first | (with_reducible assumption) | assumption)
                                have q385 : x14_2 < (t376.length : Int) := of_decide_eq_true (by first | (with_reducible assumption) | assumption)
                                obtain ⟨ad385, e385, hx385_0⟩ := Kd.at_int (Kd.R_reads' HO_8.out).2.2 x14_2 p385 q385
                                cases e385
                                replace p385 := eq_true p385
                                replace q385 := eq_true q385
                                go_wp2
                                go_roundg k3
                                case measure => have := HJ9.out; have := HK2.out; have := HK3.out; omega
                                case rel => exact ⟨(x13_2), (wrap64 (x14_2 + 1)), (by first | rfl | (simp; done) | (simp [*]; done)), (by first | rfl | (simp; done) | (simp [*]; done)), H', ⟨by have := HJ9.out; have := HK2.out; have := HK3.out; omega⟩, ⟨by (with_reducible repeat (first | apply Kd.R_alloc | apply Kd.R_drewN | apply Kd.R_drew)); exact HO_5.out⟩, ⟨by (with_reducible repeat (first | apply Kd.R_alloc | apply Kd.R_drewN | apply Kd.R_drew)); exact HO_8.out⟩, ⟨by repeat (first | (with_reducible first | exact HB.out | apply below_alloc | apply pw_below_drewN | apply below_drew1) | exact HB.out)⟩⟩
                            · rw [if_neg c26] at H
                              have c26b0 : decide (t375 < x15_3) = false := decide_eq_false c26
                              clear c26
                              have H' := Aside0.mk H
                              clear H
                              obtain ⟨Ao30, co30, eo30⟩ := Kd.R_slice HO_8.out
                              subst eo30
                              have p385 : 0 ≤ (x14_2 : Int) := of_decide_eq_true (by first | (with_reducible assumption) | assumption)
                              have q385 : x14_2 < (t376.length : Int) := of_decide_eq_true (by first | (with_reducible assumption) | assumption)
                              obtain ⟨ad385, e385, hx385_0⟩ := Kd.at_int (Kd.R_reads' HO_8.out).2.2 x14_2 p385 q385
                              cases e385
                              replace p385 := eq_true p385
                              replace q385 := eq_true q385
                              go_wp2
                              go_roundg k3
                              case measure => have := HJ9.out; have := HK2.out; have := HK3.out; omega
                              case rel => exact ⟨(x13_2), (wrap64 (x14_2 + 1)), (by first | rfl | (simp; done) | (simp [*]; done)), (by first | rfl | (simp; done) | (simp [*]; done)), H', ⟨by have := HJ9.out; have := HK2.out; have := HK3.out; omega⟩, ⟨by (with_reducible repeat (first | apply Kd.R_alloc | apply Kd.R_drewN | apply Kd.R_drew)); exact HO_5.out⟩, ⟨by (with_reducible repeat (first | apply Kd.R_alloc | apply Kd.R_drewN | apply Kd.R_drew)); exact HO_8.out⟩, ⟨by repeat (first | (with_reducible first | exact HB.out | apply below_alloc | apply pw_below_drewN | apply below_drew1) | exact HB.out)⟩⟩
                          · rw [if_neg c25] at H
                            have c25b0 : ((rd t376 x14_2) == x15_3) = false := beq_eq_false_iff_ne.mpr c25
                            have c25b1 : ((rd t376 x14_2) != x15_3) = true := bne_iff_ne.mpr c25
                            obtain rfl := Option.some.inj H
                            obtain ⟨Ao31, co31, eo31⟩ := Kd.R_slice HO_8.out
                            subst eo31
                            have p385 : 0 ≤ (x14_2 : Int) := of_decide_eq_true (by first | (with_reducible assumption) | assumption)
                            have q385 : x14_2 < (t376.length : Int) := of_decide_eq_true (by first | (with_reducible assumption) | assumption)
                            obtain ⟨ad385, e385, hx385_0⟩ := Kd.at_int (Kd.R_reads' HO_8.out).2.2 x14_2 p385 q385
                            cases e385
                            replace p385 := eq_true p385
                            replace q385 := eq_true q385
                            go_wp2
                            go_ret
                            exact ⟨by first | rfl | (simp [errW_none, errW_some] <;> rfl) | (simp [*, errW_none, errW_some] <;> rfl), by repeat (first | (with_reducible first | exact HB.out | apply below_alloc | apply pw_below_drewN | apply below_drew1) | exact HB.out)⟩
                        · rw [if_neg c24] at H
                          exact absurd H (by simp)
                      · rw [if_neg c23] at H
                        exact absurd H (by simp)
              · rw [if_neg c18] at H
                have c18b0 : decide (x14_2 < (t371.length : Int)) = false := decide_eq_false c18
                clear c18
                by_cases c32 : (t382 != (decide (x13_2 ≥ 0))) = true
                · rw [if_pos c32] at H
                  have c32b0 : (t382 != (decide (x13_2 ≥ 0))) = true := c32
                  (try (have c32b1 : decide (t382 = (decide (x13_2 ≥ 0))) = false := by simpa using c32))
                  (try (have c32b2 : (t382 == (decide (x13_2 ≥ 0))) = false := by simpa using c32))
                  (try (have c32b3 : ¬ (t382 = (decide (x13_2 ≥ 0))) := by simpa using c32))
                  clear c32
                  obtain rfl := Option.some.inj H
                  go_wp2
                  go_ret
                  exact ⟨by first | rfl | (simp [errW_none, errW_some] <;> rfl) | (simp [*, errW_none, errW_some] <;> rfl), by repeat (first | (with_reducible first | exact HB.out | apply below_alloc | apply pw_below_drewN | apply below_drew1) | exact HB.out)⟩
                · rw [if_neg c32] at H
                  have c32b0 : (t382 != (decide (x13_2 ≥ 0))) = false := by simpa using c32
                  (try (have c32b1 : decide (t382 = (decide (x13_2 ≥ 0))) = true := by simpa using c32))
                  (try (have c32b2 : (t382 == (decide (x13_2 ≥ 0))) = true := by simpa using c32))
                  clear c32
                  by_cases c33 : t382 = true
                  · subst c33
                    have H1 : (if t381 = x13_2 then (if t380 < 0 then (laws_FnSumAlarms.j3 k2 t371 t374 t375 t376 t380 t381 true) else (laws_FnSumAlarms.j3 k2 t371 t374 t375 t376 t380 t381 (decide (t380 > t381)))) else (laws_FnSumAlarms.j3 k2 t371 t374 t375 t376 t380 t381 true)) = some r := by rw [if_pos rfl] at H; exact H
                    clear H
                    have H := H1
                    clear H1
                    have HC34 := Aside0.mk H
                    clear H
                    go_upto_region 29 with (fail)
                    go_cut [105] (fun v105 wc => ∃ (kq : Nat) (x105_33 : Bool), v105 = .bool x105_33 ∧ Aside0 (laws_FnSumAlarms.j3 kq t371 t374 t375 t376 t380 t381 x105_33 = some r) ∧ Aside0 (kq ≤ k2) ∧ Aside0 (Kd.R (Kd.int .i64) 2 wc w.heap.size (fun k_ => some k_ ≠ (v378 : Value).ownBlock) (.slice Ao12 t371.length co12) t371) ∧ Aside0 (Kd.R (Kd.int .i64) 2 wc w.heap.size (fun k_ => some k_ ≠ ((.slice Ao12 t371.length co12) : Value).ownBlock) v378 t376) ∧ Aside0 (Below w.heap.size w wc))
                    case first =>
                      have H := HC34.out
                      clear HC34
                      by_cases c35 : t381 = x13_2
                      · rw [if_pos c35] at H
                        have c35b0 : (t381 == x13_2) = true := beq_iff_eq.mpr c35
                        have c35b1 : (t381 != x13_2) = false := bne_eq_false_iff_eq.mpr c35
                        clear c35
                        (first | rw [c35b0] | (simp only [i64_w, i32_w]; rw [c35b0]) | skip)
                        by_cases c36 : t380 < 0
                        · rw [if_pos c36] at H
                          have c36b0 : decide (t380 < 0) = true := decide_eq_true c36
                          clear c36
                          have H' := Aside0.mk H
                          clear H
                          go_wp2
                          go_meet
                          case rel => exact ⟨_, (true), (by first | rfl | (simp; done) | (simp [*]; done)), H', ⟨by have := HJ9.out; have := HK2.out; first | omega | exact Nat.le_refl _⟩, ⟨by (with_reducible repeat (first | apply Kd.R_alloc | apply Kd.R_drewN | apply Kd.R_drew)); exact HO_5.out⟩, ⟨by (with_reducible repeat (first | apply Kd.R_alloc | apply Kd.R_drewN | apply Kd.R_drew)); exact HO_8.out⟩, ⟨by repeat (first | (with_reducible first | exact HB.out | apply below_alloc | apply pw_below_drewN | apply below_drew1) | exact HB.out)⟩⟩
                        · rw [if_neg c36] at H
                          have c36b0 : decide (t380 < 0) = false := decide_eq_false c36
                          clear c36
                          have H' := Aside0.mk H
                          clear H
                          go_wp2
                          go_meet
                          case rel => exact ⟨_, (decide (t380 > t381)), (by first | rfl | (simp; done) | (simp [*]; done)), H', ⟨by have := HJ9.out; have := HK2.out; first | omega | exact Nat.le_refl _⟩, ⟨by (with_reducible repeat (first | apply Kd.R_alloc | apply Kd.R_drewN | apply Kd.R_drew)); exact HO_5.out⟩, ⟨by (with_reducible repeat (first | apply Kd.R_alloc | apply Kd.R_drewN | apply Kd.R_drew)); exact HO_8.out⟩, ⟨by repeat (first | (with_reducible first | exact HB.out | apply below_alloc | apply pw_below_drewN | apply below_drew1) | exact HB.out)⟩⟩
                      · rw [if_neg c35] at H
                        have c35b0 : (t381 == x13_2) = false := beq_eq_false_iff_ne.mpr c35
                        have c35b1 : (t381 != x13_2) = true := bne_iff_ne.mpr c35
                        (first | rw [c35b0] | (simp only [i64_w, i32_w]; rw [c35b0]) | skip)
                        have H' := Aside0.mk H
                        clear H
                        go_wp2
                        go_meet
                        case rel => exact ⟨_, (true), (by first | rfl | (simp; done) | (simp [*]; done)), H', ⟨by have := HJ9.out; have := HK2.out; first | omega | exact Nat.le_refl _⟩, ⟨by (with_reducible repeat (first | apply Kd.R_alloc | apply Kd.R_drewN | apply Kd.R_drew)); exact HO_5.out⟩, ⟨by (with_reducible repeat (first | apply Kd.R_alloc | apply Kd.R_drewN | apply Kd.R_drew)); exact HO_8.out⟩, ⟨by repeat (first | (with_reducible first | exact HB.out | apply below_alloc | apply pw_below_drewN | apply below_drew1) | exact HB.out)⟩⟩
                    case rest =>
                      clear HC34
                      try clear c1
                      try clear c2
                      try clear p2
                      try clear c3
                      try clear p3
                      try clear q3
                      try clear hx3
                      try clear c4
                      try clear p6
                      try clear c9
                      try clear c15
                      try clear c17
                      try clear c18
                      try clear c18b0
                      try clear c19
                      try clear c19b0
                      try clear c20
                      try clear c20b0
                      try clear c21
                      try clear c21b0
                      try clear c22
                      try clear c23
                      try clear c23b0
                      try clear c24
                      try clear c24b0
                      try clear c25
                      try clear c25b0
                      try clear c25b1
                      try clear c26
                      try clear c26b0
                      try clear c27
                      try clear c27b0
                      try clear c32
                      try clear c32b0
                      try clear c32b1
                      try clear c32b2
                      try clear c33
                      try clear c35
                      try clear c35b0
                      try clear c35b1
                      try clear c36
                      try clear c36b0
                      try clear hx383_0
                      try clear hx385_0
                      try clear p2
                      try clear p383
                      try clear p385
                      try clear q383
                      try clear q385
                      obtain ⟨kq, x105_33, rfl, HA, HJ33, HO_5, HO_8, HB⟩ := hcut
                      cases kq with
                      | zero => exact absurd HA.out (by simp [laws_FnSumAlarms.j3])
                      | succ kj33 =>
                        have H := HA.out
                        clear HA
                        simp only [laws_FnSumAlarms.j3] at H
                        by_cases c37 : x105_33 = true
                        · subst c37
                          have H1 : (some false) = some r := by rw [if_pos rfl] at H; exact H
                          clear H
                          have H := H1
                          clear H1
                          obtain rfl := Option.some.inj H
                          go_wp2
                          go_ret
                          exact ⟨by first | rfl | (simp [errW_none, errW_some] <;> rfl) | (simp [*, errW_none, errW_some] <;> rfl), by repeat (first | (with_reducible first | exact HB.out | apply below_alloc | apply pw_below_drewN | apply below_drew1) | exact HB.out)⟩
                        · replace c37 := Bool.eq_false_iff.mpr c37
                          subst c37
                          have H1 : (laws_FnSumAlarms.l2 kj33 t371 t374 t375 t376 t381 0 t380) = some r := by rw [if_neg (show ¬ (false = true) by decide)] at H; exact H
                          clear H
                          have H := H1
                          clear H1
                          have H' := Aside0.mk H
                          clear H
                          go_wp2
                          go_loopg [18, 19] kj33 (fun kq v18 v19 w' => ∃ (x18_4 : Int) (x19_4 : Int), v18 = .int .i64 x18_4 ∧ v19 = .int .i64 x19_4 ∧ Aside0 (laws_FnSumAlarms.l2 kq t371 t374 t375 t376 t381 x18_4 x19_4 = some r) ∧ Aside0 (kq ≤ kj33) ∧ Aside0 (Kd.R (Kd.int .i64) 2 w' w.heap.size (fun k_ => some k_ ≠ (v378 : Value).ownBlock) (.slice Ao12 t371.length co12) t371) ∧ Aside0 (Kd.R (Kd.int .i64) 2 w' w.heap.size (fun k_ => some k_ ≠ ((.slice Ao12 t371.length co12) : Value).ownBlock) v378 t376) ∧ Aside0 (Below w.heap.size w w'))
                          case atStart => exact ⟨(0), (t380), (by first | rfl | (simp; done) | (simp [*]; done)), (by first | rfl | (simp; done) | (simp [*]; done)), H', ⟨Nat.le_refl _⟩, ⟨by (with_reducible repeat (first | apply Kd.R_alloc | apply Kd.R_drewN | apply Kd.R_drew)); exact HO_5.out⟩, ⟨by (with_reducible repeat (first | apply Kd.R_alloc | apply Kd.R_drewN | apply Kd.R_drew)); exact HO_8.out⟩, ⟨by repeat (first | (with_reducible first | exact HB.out | apply below_alloc | apply pw_below_drewN | apply below_drew1) | exact HB.out)⟩⟩
                          case round =>
                            clear H'
                            try clear c1
                            try clear c2
                            try clear p2
                            try clear c3
                            try clear p3
                            try clear q3
                            try clear hx3
                            try clear c4
                            try clear p6
                            try clear c9
                            try clear c15
                            try clear c17
                            try clear c18
                            try clear c18b0
                            try clear c19
                            try clear c19b0
                            try clear c20
                            try clear c20b0
                            try clear c21
                            try clear c21b0
                            try clear c22
                            try clear c23
                            try clear c23b0
                            try clear c24
                            try clear c24b0
                            try clear c25
                            try clear c25b0
                            try clear c25b1
                            try clear c26
                            try clear c26b0
                            try clear c27
                            try clear c27b0
                            try clear c32
                            try clear c32b0
                            try clear c32b1
                            try clear c32b2
                            try clear c33
                            try clear c35
                            try clear c35b0
                            try clear c35b1
                            try clear c36
                            try clear c36b0
                            try clear c37
                            try clear hx383_0
                            try clear hx385_0
                            try clear p2
                            try clear p3
                            try clear p383
                            try clear p385
                            try clear p6
                            try clear q3
                            try clear q383
                            try clear q385
                            obtain ⟨x18_4, x19_4, rfl, rfl, HA, HK4, HO_5, HO_8, HB⟩ := hrel
                            cases gk with
                            | zero => exact absurd HA.out (by simp [laws_FnSumAlarms.l2])
                            | succ k4 =>
                              have H := HA.out
                              clear HA
                              simp only [laws_FnSumAlarms.l2] at H
                              by_cases c38 : x19_4 ≤ t381
                              · rw [if_pos c38] at H
                                have c38b0 : decide (x19_4 ≤ t381) = true := decide_eq_true c38
                                clear c38
                                by_cases c39 : 0 ≤ x19_4
                                · rw [if_pos c39] at H
                                  have c39b0 : decide (0 ≤ x19_4) = true := decide_eq_true c39
                                  clear c39
                                  by_cases c40 : x19_4 < (t371.length : Int)
                                  · rw [if_pos c40] at H
                                    have c40b0 : decide (x19_4 < (t371.length : Int)) = true := decide_eq_true c40
                                    clear c40
                                    have H' := Aside0.mk H
                                    clear H
                                    have p386 : 0 ≤ (x19_4 : Int) := of_decide_eq_true (by first | (with_reducible assumption) | assumption)
                                    have q386 : x19_4 < (t371.length : Int) := of_decide_eq_true (by first | (with_reducible assumption) | assumption)
                                    obtain ⟨ad386, e386, hx386_0⟩ := Kd.at_int (Kd.R_reads' HO_5.out).2.2 x19_4 p386 q386
                                    cases e386
                                    replace p386 := eq_true p386
                                    replace q386 := eq_true q386
                                    go_wp2
                                    go_roundg k4
                                    case measure => have := HJ9.out; have := HK2.out; have := HJ33.out; have := HK4.out; omega
                                    case rel => exact ⟨(wrap64 (x18_4 + (wrap64 ((rd t371 x19_4) - t374)))), (wrap64 (x19_4 + 1)), (by first | rfl | (simp; done) | (simp [*]; done)), (by first | rfl | (simp; done) | (simp [*]; done)), H', ⟨by have := HJ9.out; have := HK2.out; have := HJ33.out; have := HK4.out; omega⟩, ⟨by (with_reducible repeat (first | apply Kd.R_alloc | apply Kd.R_drewN | apply Kd.R_drew)); exact HO_5.out⟩, ⟨by (with_reducible repeat (first | apply Kd.R_alloc | apply Kd.R_drewN | apply Kd.R_drew)); exact HO_8.out⟩, ⟨by repeat (first | (with_reducible first | exact HB.out | apply below_alloc | apply pw_below_drewN | apply below_drew1) | exact HB.out)⟩⟩
                                  · rw [if_neg c40] at H
                                    exact absurd H (by simp)
                                · rw [if_neg c39] at H
                                  exact absurd H (by simp)
                              · rw [if_neg c38] at H
                                have c38b0 : decide (x19_4 ≤ t381) = false := decide_eq_false c38
                                clear c38
                                by_cases c41 : x18_4 > t375
                                · rw [if_pos c41] at H
                                  have c41b0 : decide (t375 < x18_4) = true := decide_eq_true c41
                                  clear c41
                                  by_cases c42 : 0 ≤ t381
                                  · rw [if_pos c42] at H
                                    have c42b0 : decide (0 ≤ t381) = true := decide_eq_true c42
                                    clear c42
                                    by_cases c43 : t381 < (t376.length : Int)
                                    · rw [if_pos c43] at H
                                      have c43b0 : decide (t381 < (t376.length : Int)) = true := decide_eq_true c43
                                      clear c43
                                      obtain rfl := Option.some.inj H
                                      obtain ⟨Ao44, co44, eo44⟩ := Kd.R_slice HO_8.out
                                      subst eo44
                                      have p387 : 0 ≤ (t381 : Int) := of_decide_eq_true (by first | (with_reducible assumption) | assumption)
                                      have q387 : t381 < (t376.length : Int) := of_decide_eq_true (by first | (with_reducible assumption) | assumption)
                                      obtain ⟨ad387, e387, hx387_0⟩ := Kd.at_int (Kd.R_reads' HO_8.out).2.2 t381 p387 q387
                                      cases e387
                                      replace p387 := eq_true p387
                                      replace q387 := eq_true q387
                                      go_wp2
                                      go_ret
                                      exact ⟨by first | rfl | (simp [errW_none, errW_some] <;> rfl) | (simp [*, errW_none, errW_some] <;> rfl), by repeat (first | (with_reducible first | exact HB.out | apply below_alloc | apply pw_below_drewN | apply below_drew1) | exact HB.out)⟩
                                    · rw [if_neg c43] at H
                                      exact absurd H (by simp)
                                  · rw [if_neg c42] at H
                                    exact absurd H (by simp)
                                · rw [if_neg c41] at H
                                  have c41b0 : decide (t375 < x18_4) = false := decide_eq_false c41
                                  clear c41
                                  obtain rfl := Option.some.inj H
                                  go_wp2
                                  go_ret
                                  exact ⟨by first | rfl | (simp [errW_none, errW_some] <;> rfl) | (simp [*, errW_none, errW_some] <;> rfl), by repeat (first | (with_reducible first | exact HB.out | apply below_alloc | apply pw_below_drewN | apply below_drew1) | exact HB.out)⟩
                  · replace c33 := Bool.eq_false_iff.mpr c33
                    subst c33
                    have H1 : (some true) = some r := by rw [if_neg (show ¬ (false = true) by decide)] at H; exact H
                    clear H
                    have H := H1
                    clear H1
                    obtain rfl := Option.some.inj H
                    go_wp2
                    go_ret
                    exact ⟨by first | rfl | (simp [errW_none, errW_some] <;> rfl) | (simp [*, errW_none, errW_some] <;> rfl), by repeat (first | (with_reducible first | exact HB.out | apply below_alloc | apply pw_below_drewN | apply below_drew1) | exact HB.out)⟩

/-- THE ONE PURE STATEMENT of laws_FnSumAlarms: yours. -/
def laws_FnSumAlarms.Pure : Prop := ∀ (l0 : List Int) (l1 : List Int), l0.length ≤ maxLen → l0.length * 1 ≤ 140737488351232 → (∀ x ∈ l0, (Lit.int .u8 x).wf = true) → l1.length ≤ maxLen → l1.length * 1 ≤ 140737488351232 → (∀ x ∈ l1, (Lit.int .u8 x).wf = true) → ∃ k, laws_FnSumAlarms.f k l0 l1 = some true
theorem laws_FnSumAlarms.walk (P : laws_FnSumAlarms.Pure) (a0 : Option Addr) (len0 cap0 : Nat) (z0 : List Int) (a1 : Option Addr) (len1 cap1 : Nat) (z1 : List Int) (w : World) (w0 : (a0 = none ∧ len0 = 0 ∧ cap0 = 0 ∧ z0 = []) ∨ ∃ x, a0 = some x ∧ len0 ≤ cap0 ∧ cap0 ≤ maxLen ∧ z0.length = cap0 ∧ (∀ i, i < z0.length → w.cell? (x.add i) = some (.int .u8 (z0.getD i 0))) ∧ ∀ n ∈ z0, (Lit.int .u8 n).wf = true) (y0 : len0 * 1 ≤ 140737488351232) (w1 : (a1 = none ∧ len1 = 0 ∧ cap1 = 0 ∧ z1 = []) ∨ ∃ x, a1 = some x ∧ len1 ≤ cap1 ∧ cap1 ≤ maxLen ∧ z1.length = cap1 ∧ (∀ i, i < z1.length → w.cell? (x.add i) = some (.int .u8 (z1.getD i 0))) ∧ ∀ n ∈ z1, (Lit.int .u8 n).wf = true) (y1 : len1 * 1 ≤ 140737488351232) :
    Calls Try.prog 9 #[.slice a0 len0 cap0, .slice a1 len1 cap1] w fun e w' => e = .returned (.bool true) ∧ Below w.heap.size w w' := by
  obtain ⟨l0, rfl, hr0, hm0, hw0, hc0⟩ := ReadsInt.ofRowC w0
  obtain ⟨l1, rfl, hr1, hm1, hw1, hc1⟩ := ReadsInt.ofRowC w1
  obtain ⟨k, h⟩ := P l0 l1 hm0 y0 hw0 hm1 y1 hw1
  refine (laws_FnSumAlarms.calls k _ _ l0 _ _ l1 true w (Kd.C_of_reads (d := (0 : Int)) (h1 := fun _ => rfl) hr0) hc0 (Kd.C_of_reads (d := (0 : Int)) (h1 := fun _ => rfl) hr1) hc1 h).mono ?_
  rintro e w' ⟨rfl, hd⟩
  exact ⟨rfl, hd⟩

end Go.Proofs.Ytbabgpkfppdfnaa.G
