-- written by wip/tools/myprint.py for this claim (out of the translation; functions by hand where the printer stops). Lean checks it.
import Derived.Test.YtbabgpkfppdfnaaGx0
import Derived.Test.YtbabgpkfppdfnaaGx6
import Derived.Test.YtbabgpkfppdfnaaGx9
import Derived.Test.YtbabgpkfppdfnaaGx10
import Derived.Test.YtbabgpkfppdfnaaGx11
namespace Go.Proofs.Ytbabgpkfppdfnaa.G
open Go.RowKit Go.Proofs.YtbabgpkfppdfnaaW.PrintWords Go.Proofs.YtbabgpkfppdfnaaW.PrintLast Go.Proofs.YtbabgpkfppdfnaaW.PrintMore
attribute [local go_sem] max2_int min2_int max_two min_two max_three min_three max_four min_four   -- for this text's walks alone
set_option linter.unusedVariables false
set_option linter.unusedSimpArgs false

/-! ### laws_FnExcess: function 7 -/
mutual
def laws_FnExcess.j0 : Nat → List Int → Int → Int → Int → Bool → Option (Bool)
  | 0, _, _, _, _, _ => none
  | k + 1, x5, x6, x7, x8, x55 => if x55 = true then (some false) else (if x8 > 0 then ((impl_AlarmOf.f k x5 (wrap64 (x8 - 1)) x7).bind fun bt343 => (if bt343.2.2 = true then (laws_FnExcess.j1 k x5 x6) else (some false))) else (laws_FnExcess.j1 k x5 x6))
def laws_FnExcess.j1 : Nat → List Int → Int → Option (Bool)
  | 0, _, _ => none
  | k + 1, x5, x6 => (impl_GreatestExcess.f k x5 x6).bind fun bt346 => (if (bt346.2.2.2 != (decide ((x5.length : Int) > 0))) = true then (some false) else (laws_FnExcess.l0 k x5 x6 bt346.1 bt346.2.1 bt346.2.2.1 (!bt346.2.2.2) 0))
def laws_FnExcess.l0 : Nat → List Int → Int → Int → Int → Int → Bool → Int → Option (Bool)
  | 0, _, _, _, _, _, _, _ => none
  | k + 1, x5, x6, x16, x17, x18, x20, x21 => if x21 < (x5.length : Int) then (laws_FnExcess.l1 k x5 x6 x16 x17 x18 x20 x21 0 x21) else (some x20)
def laws_FnExcess.l1 : Nat → List Int → Int → Int → Int → Int → Bool → Int → Int → Int → Option (Bool)
  | 0, _, _, _, _, _, _, _, _, _ => none
  | k + 1, x5, x6, x16, x17, x18, x20, x21, x22, x23 => if x23 < (x5.length : Int) then (if 0 ≤ x23 then (if (wrap64 (x22 + (wrap64 ((rd x5 x23) - x6)))) > x18 then (some false) else (if (wrap64 (x22 + (wrap64 ((rd x5 x23) - x6)))) = x18 then (laws_FnExcess.j4 k x5 x6 x16 x17 x18 x20 x21 (wrap64 (x22 + (wrap64 ((rd x5 x23) - x6)))) x23 (!x20)) else (laws_FnExcess.j4 k x5 x6 x16 x17 x18 x20 x21 (wrap64 (x22 + (wrap64 ((rd x5 x23) - x6)))) x23 false))) else (none)) else (laws_FnExcess.l0 k x5 x6 x16 x17 x18 x20 (wrap64 (x21 + 1)))
def laws_FnExcess.j4 : Nat → List Int → Int → Int → Int → Int → Bool → Int → Int → Int → Bool → Option (Bool)
  | 0, _, _, _, _, _, _, _, _, _, _ => none
  | k + 1, x5, x6, x16, x17, x18, x20, x21, x22, x23, x114 => if x114 = true then (if x21 = x16 then (if x23 = x17 then (laws_FnExcess.l1 k x5 x6 x16 x17 x18 true x21 x22 (wrap64 (x23 + 1))) else (some false)) else (some false)) else (laws_FnExcess.l1 k x5 x6 x16 x17 x18 x20 x21 x22 (wrap64 (x23 + 1)))
end
def laws_FnExcess.f (k : Nat) (l0 : List Int) (l1 : List Int) : Option (Bool) := (laws_r8Long.f l0 l1).bind fun t332 => (if t332 = true then (some true) else ((spec_R8Balance.f k l0).bind fun t333 => ((laws_r8At.f l1 0 12).bind fun t336 => ((laws_r8At.f l1 1 30).bind fun t337 => ((impl_LeastAllowance.f k t333 t337).bind fun bt338 => ((impl_AlarmOf.f k t333 bt338.1 t337).bind fun bt340 => (if bt338.2 = true then (if bt340.2.2 = true then (laws_FnExcess.j0 k t333 t336 t337 bt338.1 true) else (laws_FnExcess.j0 k t333 t336 t337 bt338.1 (decide (bt338.1 < 0)))) else (laws_FnExcess.j0 k t333 t336 t337 bt338.1 true))))))))
theorem laws_FnExcess.mono_l : ∀ k, (∀ y0 y1 y2 y3 y4, LeO (laws_FnExcess.j0 k y0 y1 y2 y3 y4) (laws_FnExcess.j0 (k + 1) y0 y1 y2 y3 y4)) ∧ (∀ y0 y1, LeO (laws_FnExcess.j1 k y0 y1) (laws_FnExcess.j1 (k + 1) y0 y1)) ∧ (∀ y0 y1 y2 y3 y4 y5 y6, LeO (laws_FnExcess.l0 k y0 y1 y2 y3 y4 y5 y6) (laws_FnExcess.l0 (k + 1) y0 y1 y2 y3 y4 y5 y6)) ∧ (∀ y0 y1 y2 y3 y4 y5 y6 y7 y8, LeO (laws_FnExcess.l1 k y0 y1 y2 y3 y4 y5 y6 y7 y8) (laws_FnExcess.l1 (k + 1) y0 y1 y2 y3 y4 y5 y6 y7 y8)) ∧ (∀ y0 y1 y2 y3 y4 y5 y6 y7 y8 y9, LeO (laws_FnExcess.j4 k y0 y1 y2 y3 y4 y5 y6 y7 y8 y9) (laws_FnExcess.j4 (k + 1) y0 y1 y2 y3 y4 y5 y6 y7 y8 y9))
  | 0 => ⟨fun _ _ _ _ _ r h => by simp [laws_FnExcess.j0] at h, fun _ _ r h => by simp [laws_FnExcess.j1] at h, fun _ _ _ _ _ _ _ r h => by simp [laws_FnExcess.l0] at h, fun _ _ _ _ _ _ _ _ _ r h => by simp [laws_FnExcess.l1] at h, fun _ _ _ _ _ _ _ _ _ _ r h => by simp [laws_FnExcess.j4] at h⟩
  | k + 1 => by
    obtain ⟨ih0, ih1, ih2, ih3, ih4⟩ := laws_FnExcess.mono_l k
    refine ⟨?_, ?_, ?_, ?_, ?_⟩
    · intro y0 y1 y2 y3 y4
      unfold laws_FnExcess.j0
      repeat' first
      | (with_reducible exact ih0 _ _ _ _ _)
      | (with_reducible exact ih1 _ _)
      | (with_reducible exact ih2 _ _ _ _ _ _ _)
      | (with_reducible exact ih3 _ _ _ _ _ _ _ _ _)
      | (with_reducible exact ih4 _ _ _ _ _ _ _ _ _ _)
      | (with_reducible exact impl_AlarmOf.mono _ _ _ _)
      | (with_reducible exact impl_GreatestExcess.mono _ _ _)
      | (with_reducible exact impl_LeastAllowance.mono _ _ _)
      | (with_reducible exact spec_R8Balance.mono _ _)
      | (with_reducible exact LeO.refl _)
      | (with_reducible exact LeO.none _)
      | (with_reducible refine LeO.ite ?_ ?_)
      | (with_reducible refine LeO.bind ?_ (fun _ => ?_))
      | exact ih0 _ _ _ _ _
      | exact ih1 _ _
      | exact ih2 _ _ _ _ _ _ _
      | exact ih3 _ _ _ _ _ _ _ _ _
      | exact ih4 _ _ _ _ _ _ _ _ _ _
      | exact impl_AlarmOf.mono _ _ _ _
      | exact impl_GreatestExcess.mono _ _ _
      | exact impl_LeastAllowance.mono _ _ _
      | exact spec_R8Balance.mono _ _
      | exact LeO.none _
      | refine LeO.ite ?_ ?_
      | refine LeO.bind ?_ (fun _ => ?_)
    · intro y0 y1
      unfold laws_FnExcess.j1
      repeat' first
      | (with_reducible exact ih0 _ _ _ _ _)
      | (with_reducible exact ih1 _ _)
      | (with_reducible exact ih2 _ _ _ _ _ _ _)
      | (with_reducible exact ih3 _ _ _ _ _ _ _ _ _)
      | (with_reducible exact ih4 _ _ _ _ _ _ _ _ _ _)
      | (with_reducible exact impl_AlarmOf.mono _ _ _ _)
      | (with_reducible exact impl_GreatestExcess.mono _ _ _)
      | (with_reducible exact impl_LeastAllowance.mono _ _ _)
      | (with_reducible exact spec_R8Balance.mono _ _)
      | (with_reducible exact LeO.refl _)
      | (with_reducible exact LeO.none _)
      | (with_reducible refine LeO.ite ?_ ?_)
      | (with_reducible refine LeO.bind ?_ (fun _ => ?_))
      | exact ih0 _ _ _ _ _
      | exact ih1 _ _
      | exact ih2 _ _ _ _ _ _ _
      | exact ih3 _ _ _ _ _ _ _ _ _
      | exact ih4 _ _ _ _ _ _ _ _ _ _
      | exact impl_AlarmOf.mono _ _ _ _
      | exact impl_GreatestExcess.mono _ _ _
      | exact impl_LeastAllowance.mono _ _ _
      | exact spec_R8Balance.mono _ _
      | exact LeO.none _
      | refine LeO.ite ?_ ?_
      | refine LeO.bind ?_ (fun _ => ?_)
    · intro y0 y1 y2 y3 y4 y5 y6
      unfold laws_FnExcess.l0
      repeat' first
      | (with_reducible exact ih0 _ _ _ _ _)
      | (with_reducible exact ih1 _ _)
      | (with_reducible exact ih2 _ _ _ _ _ _ _)
      | (with_reducible exact ih3 _ _ _ _ _ _ _ _ _)
      | (with_reducible exact ih4 _ _ _ _ _ _ _ _ _ _)
      | (with_reducible exact impl_AlarmOf.mono _ _ _ _)
      | (with_reducible exact impl_GreatestExcess.mono _ _ _)
      | (with_reducible exact impl_LeastAllowance.mono _ _ _)
      | (with_reducible exact spec_R8Balance.mono _ _)
      | (with_reducible exact LeO.refl _)
      | (with_reducible exact LeO.none _)
      | (with_reducible refine LeO.ite ?_ ?_)
      | (with_reducible refine LeO.bind ?_ (fun _ => ?_))
      | exact ih0 _ _ _ _ _
      | exact ih1 _ _
      | exact ih2 _ _ _ _ _ _ _
      | exact ih3 _ _ _ _ _ _ _ _ _
      | exact ih4 _ _ _ _ _ _ _ _ _ _
      | exact impl_AlarmOf.mono _ _ _ _
      | exact impl_GreatestExcess.mono _ _ _
      | exact impl_LeastAllowance.mono _ _ _
      | exact spec_R8Balance.mono _ _
      | exact LeO.none _
      | refine LeO.ite ?_ ?_
      | refine LeO.bind ?_ (fun _ => ?_)
    · intro y0 y1 y2 y3 y4 y5 y6 y7 y8
      unfold laws_FnExcess.l1
      repeat' first
      | (with_reducible exact ih0 _ _ _ _ _)
      | (with_reducible exact ih1 _ _)
      | (with_reducible exact ih2 _ _ _ _ _ _ _)
      | (with_reducible exact ih3 _ _ _ _ _ _ _ _ _)
      | (with_reducible exact ih4 _ _ _ _ _ _ _ _ _ _)
      | (with_reducible exact impl_AlarmOf.mono _ _ _ _)
      | (with_reducible exact impl_GreatestExcess.mono _ _ _)
      | (with_reducible exact impl_LeastAllowance.mono _ _ _)
      | (with_reducible exact spec_R8Balance.mono _ _)
      | (with_reducible exact LeO.refl _)
      | (with_reducible exact LeO.none _)
      | (with_reducible refine LeO.ite ?_ ?_)
      | (with_reducible refine LeO.bind ?_ (fun _ => ?_))
      | exact ih0 _ _ _ _ _
      | exact ih1 _ _
      | exact ih2 _ _ _ _ _ _ _
      | exact ih3 _ _ _ _ _ _ _ _ _
      | exact ih4 _ _ _ _ _ _ _ _ _ _
      | exact impl_AlarmOf.mono _ _ _ _
      | exact impl_GreatestExcess.mono _ _ _
      | exact impl_LeastAllowance.mono _ _ _
      | exact spec_R8Balance.mono _ _
      | exact LeO.none _
      | refine LeO.ite ?_ ?_
      | refine LeO.bind ?_ (fun _ => ?_)
    · intro y0 y1 y2 y3 y4 y5 y6 y7 y8 y9
      unfold laws_FnExcess.j4
      repeat' first
      | (with_reducible exact ih0 _ _ _ _ _)
      | (with_reducible exact ih1 _ _)
      | (with_reducible exact ih2 _ _ _ _ _ _ _)
      | (with_reducible exact ih3 _ _ _ _ _ _ _ _ _)
      | (with_reducible exact ih4 _ _ _ _ _ _ _ _ _ _)
      | (with_reducible exact impl_AlarmOf.mono _ _ _ _)
      | (with_reducible exact impl_GreatestExcess.mono _ _ _)
      | (with_reducible exact impl_LeastAllowance.mono _ _ _)
      | (with_reducible exact spec_R8Balance.mono _ _)
      | (with_reducible exact LeO.refl _)
      | (with_reducible exact LeO.none _)
      | (with_reducible refine LeO.ite ?_ ?_)
      | (with_reducible refine LeO.bind ?_ (fun _ => ?_))
      | exact ih0 _ _ _ _ _
      | exact ih1 _ _
      | exact ih2 _ _ _ _ _ _ _
      | exact ih3 _ _ _ _ _ _ _ _ _
      | exact ih4 _ _ _ _ _ _ _ _ _ _
      | exact impl_AlarmOf.mono _ _ _ _
      | exact impl_GreatestExcess.mono _ _ _
      | exact impl_LeastAllowance.mono _ _ _
      | exact spec_R8Balance.mono _ _
      | exact LeO.none _
      | refine LeO.ite ?_ ?_
      | refine LeO.bind ?_ (fun _ => ?_)
theorem laws_FnExcess.mono : ∀ a0 a1 k, LeO (laws_FnExcess.f k a0 a1) (laws_FnExcess.f (k + 1) a0 a1) := by
  intro a0 a1 k
  obtain ⟨ih0, ih1, ih2, ih3, ih4⟩ := laws_FnExcess.mono_l k
  unfold laws_FnExcess.f
  repeat' first
      | (with_reducible exact ih0 _ _ _ _ _)
      | (with_reducible exact ih1 _ _)
      | (with_reducible exact ih2 _ _ _ _ _ _ _)
      | (with_reducible exact ih3 _ _ _ _ _ _ _ _ _)
      | (with_reducible exact ih4 _ _ _ _ _ _ _ _ _ _)
      | (with_reducible exact impl_AlarmOf.mono _ _ _ _)
      | (with_reducible exact impl_GreatestExcess.mono _ _ _)
      | (with_reducible exact impl_LeastAllowance.mono _ _ _)
      | (with_reducible exact spec_R8Balance.mono _ _)
      | (with_reducible exact LeO.refl _)
      | (with_reducible exact LeO.none _)
      | (with_reducible refine LeO.ite ?_ ?_)
      | (with_reducible refine LeO.bind ?_ (fun _ => ?_))
      | exact ih0 _ _ _ _ _
      | exact ih1 _ _
      | exact ih2 _ _ _ _ _ _ _
      | exact ih3 _ _ _ _ _ _ _ _ _
      | exact ih4 _ _ _ _ _ _ _ _ _ _
      | exact impl_AlarmOf.mono _ _ _ _
      | exact impl_GreatestExcess.mono _ _ _
      | exact impl_LeastAllowance.mono _ _ _
      | exact spec_R8Balance.mono _ _
      | exact LeO.none _
      | refine LeO.ite ?_ ?_
      | refine LeO.bind ?_ (fun _ => ?_)
set_option maxHeartbeats 8000000 in
set_option maxRecDepth 100000 in
theorem laws_FnExcess.calls (k : Nat) (A0 : Option Addr) (c0 : Nat) (l0 : List Int) (A1 : Option Addr) (c1 : Nat) (l1 : List Int) (r : Bool) (w : World) (hr0 : Kd.C (Kd.int .u8) w A0 l0.length l0) (hc0 : l0.length ≤ c0) (hr1 : Kd.C (Kd.int .u8) w A1 l1.length l1) (hc1 : l1.length ≤ c1) (h : laws_FnExcess.f k l0 l1 = some r) :
    Calls Try.prog 7 #[.slice A0 l0.length c0, .slice A1 l1.length c1] w fun e w' => e = .returned (.bool r) ∧ Below w.heap.size w w' := by
  have HR0 := Aside0.mk hr0
  have HC0 := Aside0.mk hc0
  clear hr0 hc0
  have HR1 := Aside0.mk hr1
  have HC1 := Aside0.mk hc1
  clear hr1 hc1
  have HB := Aside0.mk (Below.refl w.heap.size w)
  have H : ((laws_r8Long.f l0 l1).bind fun t332 => (if t332 = true then (some true) else ((spec_R8Balance.f k l0).bind fun t333 => ((laws_r8At.f l1 0 12).bind fun t336 => ((laws_r8At.f l1 1 30).bind fun t337 => ((impl_LeastAllowance.f k t333 t337).bind fun bt338 => ((impl_AlarmOf.f k t333 bt338.1 t337).bind fun bt340 => (if bt338.2 = true then (if bt340.2.2 = true then (laws_FnExcess.j0 k t333 t336 t337 bt338.1 true) else (laws_FnExcess.j0 k t333 t336 t337 bt338.1 (decide (bt338.1 < 0)))) else (laws_FnExcess.j0 k t333 t336 t337 bt338.1 true))))))))) = some r := h
  clear h
  replace H := Option.bind_eq_some_iff.mp H
  obtain ⟨t332, A30, H⟩ := H
  replace H : (if t332 = true then (some true) else ((spec_R8Balance.f k l0).bind fun t333 => ((laws_r8At.f l1 0 12).bind fun t336 => ((laws_r8At.f l1 1 30).bind fun t337 => ((impl_LeastAllowance.f k t333 t337).bind fun bt338 => ((impl_AlarmOf.f k t333 bt338.1 t337).bind fun bt340 => (if bt338.2 = true then (if bt340.2.2 = true then (laws_FnExcess.j0 k t333 t336 t337 bt338.1 true) else (laws_FnExcess.j0 k t333 t336 t337 bt338.1 (decide (bt338.1 < 0)))) else (laws_FnExcess.j0 k t333 t336 t337 bt338.1 true)))))))) = some r := H
  have A3 := Aside0.mk A30
  clear A30
  by_cases c4 : t332 = true
  · subst c4
    have H1 : (some true) = some r := by rw [if_pos rfl] at H; exact H
    clear H
    have H := H1
    clear H1
    obtain rfl := Option.some.inj H
    go_enter Try.func7, Try.ntmps7
    go_wp2_with (first | ((with_reducible refine gate_callee (f := 22) rfl ?_); refine goesL_ (some 26) rfl rfl Try.func22 (by kernel_rfl) rfl #[.slice A0 l0.length c0, .slice A1 l1.length c1] rfl (by (try simp only [List.map_toArray, List.map_cons, List.map_nil]); first | done | rfl | (simp only [List.length_drop, List.length_take]; rfl)) ?_; (with_reducible refine (laws_r8Long.calls _ _ l0 _ _ l1 true _ ?side1 ?side2 ?side3 ?side4 A3.out).mono ?_); (case side1 => repeat (first | exact HR0.out | (with_reducible refine Kd.C_alloc ?_ _) | (with_reducible refine Kd.C_drewN ?_ _) | (with_reducible refine Kd.C_drew ?_))); (case side2 => exact HC0.out); (case side3 => repeat (first | exact HR1.out | (with_reducible refine Kd.C_alloc ?_ _) | (with_reducible refine Kd.C_drewN ?_ _) | (with_reducible refine Kd.C_drew ?_))); (case side4 => exact HC1.out); rintro e w' ⟨rfl, ⟨nd, rfl⟩⟩; refine ⟨_, rfl, ?_⟩))
    go_ret
    exact ⟨by first | rfl | (simp [errW_none, errW_some] <;> rfl) | (simp [*, errW_none, errW_some] <;> rfl), by repeat (first | (with_reducible first | exact HB.out | apply below_alloc | apply pw_below_drewN | apply below_drew1) | exact HB.out)⟩
  · replace c4 := Bool.eq_false_iff.mpr c4
    subst c4
    have H1 : ((spec_R8Balance.f k l0).bind fun t333 => ((laws_r8At.f l1 0 12).bind fun t336 => ((laws_r8At.f l1 1 30).bind fun t337 => ((impl_LeastAllowance.f k t333 t337).bind fun bt338 => ((impl_AlarmOf.f k t333 bt338.1 t337).bind fun bt340 => (if bt338.2 = true then (if bt340.2.2 = true then (laws_FnExcess.j0 k t333 t336 t337 bt338.1 true) else (laws_FnExcess.j0 k t333 t336 t337 bt338.1 (decide (bt338.1 < 0)))) else (laws_FnExcess.j0 k t333 t336 t337 bt338.1 true))))))) = some r := by rw [if_neg (show ¬ (false = true) by decide)] at H; exact H
    clear H
    have H := H1
    clear H1
    replace H := Option.bind_eq_some_iff.mp H
    obtain ⟨t333, A50, H⟩ := H
    replace H : ((laws_r8At.f l1 0 12).bind fun t336 => ((laws_r8At.f l1 1 30).bind fun t337 => ((impl_LeastAllowance.f k t333 t337).bind fun bt338 => ((impl_AlarmOf.f k t333 bt338.1 t337).bind fun bt340 => (if bt338.2 = true then (if bt340.2.2 = true then (laws_FnExcess.j0 k t333 t336 t337 bt338.1 true) else (laws_FnExcess.j0 k t333 t336 t337 bt338.1 (decide (bt338.1 < 0)))) else (laws_FnExcess.j0 k t333 t336 t337 bt338.1 true)))))) = some r := H
    have A5 := Aside0.mk A50
    clear A50
    replace H := Option.bind_eq_some_iff.mp H
    obtain ⟨t336, A60, H⟩ := H
    replace H : ((laws_r8At.f l1 1 30).bind fun t337 => ((impl_LeastAllowance.f k t333 t337).bind fun bt338 => ((impl_AlarmOf.f k t333 bt338.1 t337).bind fun bt340 => (if bt338.2 = true then (if bt340.2.2 = true then (laws_FnExcess.j0 k t333 t336 t337 bt338.1 true) else (laws_FnExcess.j0 k t333 t336 t337 bt338.1 (decide (bt338.1 < 0)))) else (laws_FnExcess.j0 k t333 t336 t337 bt338.1 true))))) = some r := H
    have A6 := Aside0.mk A60
    clear A60
    replace H := Option.bind_eq_some_iff.mp H
    obtain ⟨t337, A70, H⟩ := H
    replace H : ((impl_LeastAllowance.f k t333 t337).bind fun bt338 => ((impl_AlarmOf.f k t333 bt338.1 t337).bind fun bt340 => (if bt338.2 = true then (if bt340.2.2 = true then (laws_FnExcess.j0 k t333 t336 t337 bt338.1 true) else (laws_FnExcess.j0 k t333 t336 t337 bt338.1 (decide (bt338.1 < 0)))) else (laws_FnExcess.j0 k t333 t336 t337 bt338.1 true)))) = some r := H
    have A7 := Aside0.mk A70
    clear A70
    replace H := Option.bind_eq_some_iff.mp H
    obtain ⟨⟨t338, t339⟩, A80, H⟩ := H
    replace H : ((impl_AlarmOf.f k t333 t338 t337).bind fun bt340 => (if t339 = true then (if bt340.2.2 = true then (laws_FnExcess.j0 k t333 t336 t337 t338 true) else (laws_FnExcess.j0 k t333 t336 t337 t338 (decide (t338 < 0)))) else (laws_FnExcess.j0 k t333 t336 t337 t338 true))) = some r := H
    have A8 := Aside0.mk A80
    clear A80
    replace H := Option.bind_eq_some_iff.mp H
    obtain ⟨⟨t340, t341, t342⟩, A90, H⟩ := H
    replace H : (if t339 = true then (if t342 = true then (laws_FnExcess.j0 k t333 t336 t337 t338 true) else (laws_FnExcess.j0 k t333 t336 t337 t338 (decide (t338 < 0)))) else (laws_FnExcess.j0 k t333 t336 t337 t338 true)) = some r := H
    have A9 := Aside0.mk A90
    clear A90
    have HC10 := Aside0.mk H
    clear H
    go_enter Try.func7, Try.ntmps7
    go_upto_region 8 with (first | ((with_reducible refine gate_callee (f := 22) rfl ?_); refine goesL_ (some 26) rfl rfl Try.func22 (by kernel_rfl) rfl #[.slice A0 l0.length c0, .slice A1 l1.length c1] rfl (by (try simp only [List.map_toArray, List.map_cons, List.map_nil]); first | done | rfl | (simp only [List.length_drop, List.length_take]; rfl)) ?_; (with_reducible refine (laws_r8Long.calls _ _ l0 _ _ l1 false _ ?side1 ?side2 ?side3 ?side4 A3.out).mono ?_); (case side1 => repeat (first | exact HR0.out | (with_reducible refine Kd.C_alloc ?_ _) | (with_reducible refine Kd.C_drewN ?_ _) | (with_reducible refine Kd.C_drew ?_))); (case side2 => exact HC0.out); (case side3 => repeat (first | exact HR1.out | (with_reducible refine Kd.C_alloc ?_ _) | (with_reducible refine Kd.C_drewN ?_ _) | (with_reducible refine Kd.C_drew ?_))); (case side4 => exact HC1.out); rintro e w' ⟨rfl, ⟨nd, rfl⟩⟩; refine ⟨_, rfl, ?_⟩) | ((with_reducible refine gate_callee (f := 23) rfl ?_); refine goesL_ (some 28) rfl rfl Try.func23 (by kernel_rfl) rfl #[.slice A0 l0.length c0] rfl (by (try simp only [List.map_toArray, List.map_cons, List.map_nil]); first | done | rfl | (simp only [List.length_drop, List.length_take]; rfl)) ?_; (with_reducible refine (spec_R8Balance.calls k _ _ l0 t333 _ ?side1 ?side2 A5.out).mono ?_); (case side1 => repeat (first | exact HR0.out | (with_reducible refine Kd.C_alloc ?_ _) | (with_reducible refine Kd.C_drewN ?_ _) | (with_reducible refine Kd.C_drew ?_))); (case side2 => exact HC0.out); rintro e w11 ⟨v334, rfl, ho0, hb⟩; refine ⟨_, rfl, ?_⟩; have n0_ := Aside0.mk (Kd.R_lower ho0 (below_size (by repeat (first | (with_reducible first | exact HB.out | apply below_alloc | apply pw_below_drewN | apply below_drew1) | exact HB.out)))); have n1_ := Aside0.mk (below_step (by repeat (first | (with_reducible first | exact HB.out | apply below_alloc | apply pw_below_drewN | apply below_drew1) | exact HB.out)) hb); clear HB; have HO335 := n0_; have HB := n1_; clear n0_ n1_; (try clear hb); (try clear hb2); (try clear hk); (try clear hi); (try clear ho0)) | ((with_reducible refine gate_callee (f := 24) rfl ?_); refine goesL_ (some 30) rfl rfl Try.func24 (by kernel_rfl) rfl #[.slice A1 l1.length c1, .int .i64 0, .int .i64 12] rfl (by (try simp only [List.map_toArray, List.map_cons, List.map_nil]); first | done | rfl | (simp only [List.length_drop, List.length_take]; rfl)) ?_; (with_reducible refine (laws_r8At.calls _ _ l1 0 12 t336 _ ?side1 ?side2 A6.out).mono ?_); (case side1 => repeat (first | exact (Kd.C_below HR1.out HB.out) | (with_reducible refine Kd.C_alloc ?_ _) | (with_reducible refine Kd.C_drewN ?_ _) | (with_reducible refine Kd.C_drew ?_))); (case side2 => exact HC1.out); rintro e w' ⟨rfl, ⟨nd, rfl⟩⟩; refine ⟨_, rfl, ?_⟩) | ((with_reducible refine gate_callee (f := 24) rfl ?_); refine goesL_ (some 32) rfl rfl Try.func24 (by kernel_rfl) rfl #[.slice A1 l1.length c1, .int .i64 1, .int .i64 30] rfl (by (try simp only [List.map_toArray, List.map_cons, List.map_nil]); first | done | rfl | (simp only [List.length_drop, List.length_take]; rfl)) ?_; (with_reducible refine (laws_r8At.calls _ _ l1 1 30 t337 _ ?side1 ?side2 A7.out).mono ?_); (case side1 => repeat (first | exact (Kd.C_below HR1.out (by repeat (first | (with_reducible first | exact HB.out | apply below_alloc | apply pw_below_drewN | apply below_drew1) | exact HB.out))) | (with_reducible refine Kd.C_alloc ?_ _) | (with_reducible refine Kd.C_drewN ?_ _) | (with_reducible refine Kd.C_drew ?_))); (case side2 => exact HC1.out); rintro e w' ⟨rfl, ⟨nd, rfl⟩⟩; refine ⟨_, rfl, ?_⟩; obtain ⟨Ao12, co12, eo12⟩ := Kd.R_slice HO335.out; subst eo12) | ((with_reducible refine gate_callee (f := 25) rfl ?_); refine goesL_ (some 36) rfl rfl Try.func25 (by kernel_rfl) rfl #[.slice Ao12 t333.length co12, .int .i64 t337] rfl (by (try simp only [List.map_toArray, List.map_cons, List.map_nil]); first | done | rfl | (simp only [List.length_drop, List.length_take]; rfl)) ?_; (with_reducible refine (impl_LeastAllowance.calls k _ _ t333 t337 t338 t339 _ ?side1 ?side2 A8.out).mono ?_); (case side1 => repeat (first | exact (Kd.R_reads' HO335.out).2.2 | (with_reducible refine Kd.C_alloc ?_ _) | (with_reducible refine Kd.C_drewN ?_ _) | (with_reducible refine Kd.C_drew ?_))); (case side2 => exact (Kd.R_reads' HO335.out).2.1); rintro e w13 ⟨rfl, hb⟩; refine ⟨_, rfl, ?_⟩; have n0_ := Aside0.mk (Kd.R_below (by (with_reducible repeat (first | apply Kd.R_alloc | apply Kd.R_drewN | apply Kd.R_drew)); exact HO335.out) hb); have n1_ := Aside0.mk (below_step (by repeat (first | (with_reducible first | exact HB.out | apply below_alloc | apply pw_below_drewN | apply below_drew1) | exact HB.out)) hb); clear HO335; clear HB; have HO335 := n0_; have HB := n1_; clear n0_ n1_; (try clear hb); (try clear hb2); (try clear hk); (try clear hi)) | ((with_reducible refine gate_callee (f := 21) rfl ?_); refine goesL_ (some 43) rfl rfl Try.func21 (by kernel_rfl) rfl #[.slice Ao12 t333.length co12, .int .i64 t338, .int .i64 t337] rfl (by (try simp only [List.map_toArray, List.map_cons, List.map_nil]); first | done | rfl | (simp only [List.length_drop, List.length_take]; rfl)) ?_; (with_reducible refine (impl_AlarmOf.calls k _ _ t333 t338 t337 t340 t341 t342 _ ?side1 ?side2 A9.out).mono ?_); (case side1 => repeat (first | exact (Kd.R_reads' HO335.out).2.2 | (with_reducible refine Kd.C_alloc ?_ _) | (with_reducible refine Kd.C_drewN ?_ _) | (with_reducible refine Kd.C_drew ?_))); (case side2 => exact (Kd.R_reads' HO335.out).2.1); rintro e w14 ⟨rfl, hb⟩; refine ⟨_, rfl, ?_⟩; have n0_ := Aside0.mk (Kd.R_below (by (with_reducible repeat (first | apply Kd.R_alloc | apply Kd.R_drewN | apply Kd.R_drew)); exact HO335.out) hb); have n1_ := Aside0.mk (below_step (by repeat (first | (with_reducible first | exact HB.out | apply below_alloc | apply pw_below_drewN | apply below_drew1) | exact HB.out)) hb); clear HO335; clear HB; have HO335 := n0_; have HB := n1_; clear n0_ n1_; (try clear hb); (try clear hb2); (try clear hk); (try clear hi)))
    (try simp only [Act.put, List.setIfInBounds_toArray, List.set_cons_zero, List.set_cons_succ])
    go_cut [55] (fun v55 wc => ∃ (kq : Nat) (x55_9 : Bool), v55 = .bool x55_9 ∧ Aside0 (laws_FnExcess.j0 kq t333 t336 t337 t338 x55_9 = some r) ∧ Aside0 (kq ≤ k) ∧ Aside0 (Kd.R (Kd.int .i64) 2 wc w.heap.size (fun _ => True) (.slice Ao12 t333.length co12) t333) ∧ Aside0 (Below w.heap.size w wc))
    case first =>
      have H := HC10.out
      clear HC10
      by_cases c15 : t339 = true
      · subst c15
        have H1 : (if t342 = true then (laws_FnExcess.j0 k t333 t336 t337 t338 true) else (laws_FnExcess.j0 k t333 t336 t337 t338 (decide (t338 < 0)))) = some r := by rw [if_pos rfl] at H; exact H
        clear H
        have H := H1
        clear H1
        by_cases c16 : t342 = true
        · subst c16
          have H1 : (laws_FnExcess.j0 k t333 t336 t337 t338 true) = some r := by rw [if_pos rfl] at H; exact H
          clear H
          have H := H1
          clear H1
          have H' := Aside0.mk H
          clear H
          go_wp2
          go_meet
          case rel => exact ⟨_, (true), (by first | rfl | (simp; done) | (simp [*]; done)), H', ⟨by first | omega | exact Nat.le_refl _⟩, ⟨by (with_reducible repeat (first | apply Kd.R_alloc | apply Kd.R_drewN | apply Kd.R_drew)); exact HO335.out⟩, ⟨by repeat (first | (with_reducible first | exact HB.out | apply below_alloc | apply pw_below_drewN | apply below_drew1) | exact HB.out)⟩⟩
        · replace c16 := Bool.eq_false_iff.mpr c16
          subst c16
          have H1 : (laws_FnExcess.j0 k t333 t336 t337 t338 (decide (t338 < 0))) = some r := by rw [if_neg (show ¬ (false = true) by decide)] at H; exact H
          clear H
          have H := H1
          clear H1
          have H' := Aside0.mk H
          clear H
          go_wp2
          go_meet
          case rel => exact ⟨_, (decide (t338 < 0)), (by first | rfl | (simp; done) | (simp [*]; done)), H', ⟨by first | omega | exact Nat.le_refl _⟩, ⟨by (with_reducible repeat (first | apply Kd.R_alloc | apply Kd.R_drewN | apply Kd.R_drew)); exact HO335.out⟩, ⟨by repeat (first | (with_reducible first | exact HB.out | apply below_alloc | apply pw_below_drewN | apply below_drew1) | exact HB.out)⟩⟩
      · replace c15 := Bool.eq_false_iff.mpr c15
        subst c15
        have H1 : (laws_FnExcess.j0 k t333 t336 t337 t338 true) = some r := by rw [if_neg (show ¬ (false = true) by decide)] at H; exact H
        clear H
        have H := H1
        clear H1
        have H' := Aside0.mk H
        clear H
        go_wp2
        go_meet
        case rel => exact ⟨_, (true), (by first | rfl | (simp; done) | (simp [*]; done)), H', ⟨by first | omega | exact Nat.le_refl _⟩, ⟨by (with_reducible repeat (first | apply Kd.R_alloc | apply Kd.R_drewN | apply Kd.R_drew)); exact HO335.out⟩, ⟨by repeat (first | (with_reducible first | exact HB.out | apply below_alloc | apply pw_below_drewN | apply below_drew1) | exact HB.out)⟩⟩
    case rest =>
      clear HC10
      try clear c1
      try clear c2
      try clear p2
      try clear c4
      try clear c7
      try clear c15
      try clear c16
      obtain ⟨kq, x55_9, rfl, HA, HJ9, HO_5, HB⟩ := hcut
      cases kq with
      | zero => exact absurd HA.out (by simp [laws_FnExcess.j0])
      | succ kj9 =>
        have H := HA.out
        clear HA
        simp only [laws_FnExcess.j0] at H
        by_cases c17 : x55_9 = true
        · subst c17
          have H1 : (some false) = some r := by rw [if_pos rfl] at H; exact H
          clear H
          have H := H1
          clear H1
          obtain rfl := Option.some.inj H
          go_wp2
          go_ret
          exact ⟨by first | rfl | (simp [errW_none, errW_some] <;> rfl) | (simp [*, errW_none, errW_some] <;> rfl), by repeat (first | (with_reducible first | exact HB.out | apply below_alloc | apply pw_below_drewN | apply below_drew1) | exact HB.out)⟩
        · replace c17 := Bool.eq_false_iff.mpr c17
          subst c17
          have H1 : (if t338 > 0 then ((impl_AlarmOf.f kj9 t333 (wrap64 (t338 - 1)) t337).bind fun bt343 => (if bt343.2.2 = true then (laws_FnExcess.j1 kj9 t333 t336) else (some false))) else (laws_FnExcess.j1 kj9 t333 t336)) = some r := by rw [if_neg (show ¬ (false = true) by decide)] at H; exact H
          clear H
          have H := H1
          clear H1
          have HC18 := Aside0.mk H
          clear H
          go_upto_if 57 with (fail)
          go_cut [] (fun wc => ∃ (kq : Nat), Aside0 (laws_FnExcess.j1 kq t333 t336 = some r) ∧ Aside0 (kq ≤ kj9) ∧ Aside0 (Kd.R (Kd.int .i64) 2 wc w.heap.size (fun _ => True) (.slice Ao12 t333.length co12) t333) ∧ Aside0 (Below w.heap.size w wc))
          case first =>
            have H := HC18.out
            clear HC18
            by_cases c19 : t338 > 0
            · rw [if_pos c19] at H
              have c19b0 : decide (0 < t338) = true := decide_eq_true c19
              clear c19
              (first | rw [c19b0] | (simp only [i64_w, i32_w]; rw [c19b0]) | skip)
              replace H := Option.bind_eq_some_iff.mp H
              obtain ⟨⟨t343, t344, t345⟩, A200, H⟩ := H
              replace H : (if t345 = true then (laws_FnExcess.j1 kj9 t333 t336) else (some false)) = some r := H
              have A20 := Aside0.mk A200
              clear A200
              by_cases c21 : t345 = true
              · subst c21
                have H1 : (laws_FnExcess.j1 kj9 t333 t336) = some r := by rw [if_pos rfl] at H; exact H
                clear H
                have H := H1
                clear H1
                have H' := Aside0.mk H
                clear H
                go_wp2_with (first | ((with_reducible refine gate_callee (f := 21) rfl ?_); refine goesL_ (some 63) rfl rfl Try.func21 (by kernel_rfl) rfl #[.slice Ao12 t333.length co12, .int .i64 (wrap64 (t338 - 1)), .int .i64 t337] rfl (by (try simp only [List.map_toArray, List.map_cons, List.map_nil]); first | done | rfl | (simp only [List.length_drop, List.length_take]; rfl)) ?_; (with_reducible refine (impl_AlarmOf.calls kj9 _ _ t333 (wrap64 (t338 - 1)) t337 t343 t344 true _ ?side1 ?side2 A20.out).mono ?_); (case side1 => repeat (first | exact (Kd.R_reads' HO_5.out).2.2 | (with_reducible refine Kd.C_alloc ?_ _) | (with_reducible refine Kd.C_drewN ?_ _) | (with_reducible refine Kd.C_drew ?_))); (case side2 => exact (Kd.R_reads' HO_5.out).2.1); rintro e w22 ⟨rfl, hb⟩; refine ⟨_, rfl, ?_⟩; have n0_ := Aside0.mk (Kd.R_below (by (with_reducible repeat (first | apply Kd.R_alloc | apply Kd.R_drewN | apply Kd.R_drew)); exact HO_5.out) hb); have n1_ := Aside0.mk (below_step (by repeat (first | (with_reducible first | exact HB.out | apply below_alloc | apply pw_below_drewN | apply below_drew1) | exact HB.out)) hb); clear HO_5; clear HB; have HO_5 := n0_; have HB := n1_; clear n0_ n1_; (try clear hb); (try clear hb2); (try clear hk); (try clear hi)))
                go_meet
                case rel => exact ⟨_, H', ⟨by have := HJ9.out; first | omega | exact Nat.le_refl _⟩, ⟨by (with_reducible repeat (first | apply Kd.R_alloc | apply Kd.R_drewN | apply Kd.R_drew)); exact HO_5.out⟩, ⟨by repeat (first | (with_reducible first | exact HB.out | apply below_alloc | apply pw_below_drewN | apply below_drew1) | exact HB.out)⟩⟩
              · replace c21 := Bool.eq_false_iff.mpr c21
                subst c21
                have H1 : (some false) = some r := by rw [if_neg (show ¬ (false = true) by decide)] at H; exact H
                clear H
                have H := H1
                clear H1
                obtain rfl := Option.some.inj H
                go_wp2_with (first | ((with_reducible refine gate_callee (f := 21) rfl ?_); refine goesL_ (some 63) rfl rfl Try.func21 (by kernel_rfl) rfl #[.slice Ao12 t333.length co12, .int .i64 (wrap64 (t338 - 1)), .int .i64 t337] rfl (by (try simp only [List.map_toArray, List.map_cons, List.map_nil]); first | done | rfl | (simp only [List.length_drop, List.length_take]; rfl)) ?_; (with_reducible refine (impl_AlarmOf.calls kj9 _ _ t333 (wrap64 (t338 - 1)) t337 t343 t344 false _ ?side1 ?side2 A20.out).mono ?_); (case side1 => repeat (first | exact (Kd.R_reads' HO_5.out).2.2 | (with_reducible refine Kd.C_alloc ?_ _) | (with_reducible refine Kd.C_drewN ?_ _) | (with_reducible refine Kd.C_drew ?_))); (case side2 => exact (Kd.R_reads' HO_5.out).2.1); rintro e w23 ⟨rfl, hb⟩; refine ⟨_, rfl, ?_⟩; have n0_ := Aside0.mk (Kd.R_below (by (with_reducible repeat (first | apply Kd.R_alloc | apply Kd.R_drewN | apply Kd.R_drew)); exact HO_5.out) hb); have n1_ := Aside0.mk (below_step (by repeat (first | (with_reducible first | exact HB.out | apply below_alloc | apply pw_below_drewN | apply below_drew1) | exact HB.out)) hb); clear HO_5; clear HB; have HO_5 := n0_; have HB := n1_; clear n0_ n1_; (try clear hb); (try clear hb2); (try clear hk); (try clear hi)))
                go_ret
                exact ⟨by first | rfl | (simp [errW_none, errW_some] <;> rfl) | (simp [*, errW_none, errW_some] <;> rfl), by repeat (first | (with_reducible first | exact HB.out | apply below_alloc | apply pw_below_drewN | apply below_drew1) | exact HB.out)⟩
            · rw [if_neg c19] at H
              have c19b0 : decide (0 < t338) = false := decide_eq_false c19
              clear c19
              (first | rw [c19b0] | (simp only [i64_w, i32_w]; rw [c19b0]) | skip)
              have H' := Aside0.mk H
              clear H
              go_wp2
              go_meet
              case rel => exact ⟨_, H', ⟨by have := HJ9.out; first | omega | exact Nat.le_refl _⟩, ⟨by (with_reducible repeat (first | apply Kd.R_alloc | apply Kd.R_drewN | apply Kd.R_drew)); exact HO_5.out⟩, ⟨by repeat (first | (with_reducible first | exact HB.out | apply below_alloc | apply pw_below_drewN | apply below_drew1) | exact HB.out)⟩⟩
          case rest =>
            clear HC18
            try clear c1
            try clear c2
            try clear p2
            try clear c4
            try clear p6
            try clear c7
            try clear c15
            try clear c16
            try clear c17
            try clear c19
            try clear c19b0
            try clear c21
            try clear c22
            try clear c23
            try clear p2
            obtain ⟨kq, HA, HJ17, HO_5, HB⟩ := hcut
            cases kq with
            | zero => exact absurd HA.out (by simp [laws_FnExcess.j1])
            | succ kj17 =>
              have H := HA.out
              clear HA
              simp only [laws_FnExcess.j1] at H
              replace H := Option.bind_eq_some_iff.mp H
              obtain ⟨⟨t346, t347, t348, t349⟩, A240, H⟩ := H
              replace H : (if (t349 != (decide ((t333.length : Int) > 0))) = true then (some false) else (laws_FnExcess.l0 kj17 t333 t336 t346 t347 t348 (!t349) 0)) = some r := H
              have A24 := Aside0.mk A240
              clear A240
              by_cases c25 : (t349 != (decide ((t333.length : Int) > 0))) = true
              · rw [if_pos c25] at H
                have c25b0 : (t349 != (decide ((t333.length : Int) > 0))) = true := c25
                (try (have c25b1 : decide (t349 = (decide ((t333.length : Int) > 0))) = false := by simpa using c25))
                (try (have c25b1z : decide (t349 = (decide (0 < t333.length))) = false := by simpa using c25))
                (try (have c25b2 : (t349 == (decide ((t333.length : Int) > 0))) = false := by simpa using c25))
                (try (have c25b2z : (t349 == (decide (0 < t333.length))) = false := by simpa using c25))
                (try (have c25b3 : ¬ (t349 = (decide ((t333.length : Int) > 0))) := by simpa using c25))
                (try (have c25b3z : ¬ (t349 = (decide (0 < t333.length))) := by simpa using c25))
                clear c25
                obtain rfl := Option.some.inj H
                go_wp2_with (first | ((with_reducible refine gate_callee (f := 17) rfl ?_); refine goesL_ (some 72) rfl rfl Try.func17 (by kernel_rfl) rfl #[.slice Ao12 t333.length co12, .int .i64 t336] rfl (by (try simp only [List.map_toArray, List.map_cons, List.map_nil]); first | done | rfl | (simp only [List.length_drop, List.length_take]; rfl)) ?_; (with_reducible refine (impl_GreatestExcess.calls kj17 _ _ t333 t336 t346 t347 t348 t349 _ ?side1 ?side2 A24.out).mono ?_); (case side1 => repeat (first | exact (Kd.R_reads' HO_5.out).2.2 | (with_reducible refine Kd.C_alloc ?_ _) | (with_reducible refine Kd.C_drewN ?_ _) | (with_reducible refine Kd.C_drew ?_))); (case side2 => exact (Kd.R_reads' HO_5.out).2.1); rintro e w26 ⟨rfl, hb⟩; refine ⟨_, rfl, ?_⟩; have n0_ := Aside0.mk (Kd.R_below (by (with_reducible repeat (first | apply Kd.R_alloc | apply Kd.R_drewN | apply Kd.R_drew)); exact HO_5.out) hb); have n1_ := Aside0.mk (below_step (by repeat (first | (with_reducible first | exact HB.out | apply below_alloc | apply pw_below_drewN | apply below_drew1) | exact HB.out)) hb); clear HO_5; clear HB; have HO_5 := n0_; have HB := n1_; clear n0_ n1_; (try clear hb); (try clear hb2); (try clear hk); (try clear hi)))
                go_ret
                exact ⟨by first | rfl | (simp [errW_none, errW_some] <;> rfl) | (simp [*, errW_none, errW_some] <;> rfl), by repeat (first | (with_reducible first | exact HB.out | apply below_alloc | apply pw_below_drewN | apply below_drew1) | exact HB.out)⟩
              · rw [if_neg c25] at H
                have c25b0 : (t349 != (decide ((t333.length : Int) > 0))) = false := by simpa using c25
                (try (have c25b1 : decide (t349 = (decide ((t333.length : Int) > 0))) = true := by simpa using c25))
                (try (have c25b1z : decide (t349 = (decide (0 < t333.length))) = true := by simpa using c25))
                (try (have c25b2 : (t349 == (decide ((t333.length : Int) > 0))) = true := by simpa using c25))
                (try (have c25b2z : (t349 == (decide (0 < t333.length))) = true := by simpa using c25))
                clear c25
                have H' := Aside0.mk H
                clear H
                go_wp2_with (first | ((with_reducible refine gate_callee (f := 17) rfl ?_); refine goesL_ (some 72) rfl rfl Try.func17 (by kernel_rfl) rfl #[.slice Ao12 t333.length co12, .int .i64 t336] rfl (by (try simp only [List.map_toArray, List.map_cons, List.map_nil]); first | done | rfl | (simp only [List.length_drop, List.length_take]; rfl)) ?_; (with_reducible refine (impl_GreatestExcess.calls kj17 _ _ t333 t336 t346 t347 t348 t349 _ ?side1 ?side2 A24.out).mono ?_); (case side1 => repeat (first | exact (Kd.R_reads' HO_5.out).2.2 | (with_reducible refine Kd.C_alloc ?_ _) | (with_reducible refine Kd.C_drewN ?_ _) | (with_reducible refine Kd.C_drew ?_))); (case side2 => exact (Kd.R_reads' HO_5.out).2.1); rintro e w27 ⟨rfl, hb⟩; refine ⟨_, rfl, ?_⟩; have n0_ := Aside0.mk (Kd.R_below (by (with_reducible repeat (first | apply Kd.R_alloc | apply Kd.R_drewN | apply Kd.R_drew)); exact HO_5.out) hb); have n1_ := Aside0.mk (below_step (by repeat (first | (with_reducible first | exact HB.out | apply below_alloc | apply pw_below_drewN | apply below_drew1) | exact HB.out)) hb); clear HO_5; clear HB; have HO_5 := n0_; have HB := n1_; clear n0_ n1_; (try clear hb); (try clear hb2); (try clear hk); (try clear hi)))
                go_loopg [20, 21] kj17 (fun kq v20 v21 w' => ∃ (x20_3 : Bool) (x21_3 : Int), v20 = .bool x20_3 ∧ v21 = .int .i64 x21_3 ∧ Aside0 (laws_FnExcess.l0 kq t333 t336 t346 t347 t348 x20_3 x21_3 = some r) ∧ Aside0 (kq ≤ kj17) ∧ Aside0 (Kd.R (Kd.int .i64) 2 w' w.heap.size (fun _ => True) (.slice Ao12 t333.length co12) t333) ∧ Aside0 (Below w.heap.size w w'))
                case atStart => exact ⟨(!t349), (0), (by first | rfl | (simp; done) | (simp [*]; done)), (by first | rfl | (simp; done) | (simp [*]; done)), H', ⟨Nat.le_refl _⟩, ⟨by (with_reducible repeat (first | apply Kd.R_alloc | apply Kd.R_drewN | apply Kd.R_drew)); exact HO_5.out⟩, ⟨by repeat (first | (with_reducible first | exact HB.out | apply below_alloc | apply pw_below_drewN | apply below_drew1) | exact HB.out)⟩⟩
                case round =>
                  clear H'
                  try clear c1
                  try clear c2
                  try clear p2
                  try clear c4
                  try clear p6
                  try clear c7
                  try clear c15
                  try clear c16
                  try clear c17
                  try clear c19
                  try clear c19b0
                  try clear c21
                  try clear c22
                  try clear c23
                  try clear c24
                  try clear c25
                  try clear c25b0
                  try clear c25b1
                  try clear c25b2
                  try clear p2
                  try clear p6
                  obtain ⟨x20_3, x21_3, rfl, rfl, HA, HK3, HO_5, HB⟩ := hrel
                  cases gk with
                  | zero => exact absurd HA.out (by simp [laws_FnExcess.l0])
                  | succ k3 =>
                    have H := HA.out
                    clear HA
                    simp only [laws_FnExcess.l0] at H
                    by_cases c28 : x21_3 < (t333.length : Int)
                    · rw [if_pos c28] at H
                      have c28b0 : decide (x21_3 < (t333.length : Int)) = true := decide_eq_true c28
                      clear c28
                      have H' := Aside0.mk H
                      clear H
                      go_wp2
                      go_loopg [20, 22, 23] k3 (fun kq v20 v22 v23 w' => ∃ (x20_4 : Bool) (x22_4 : Int) (x23_4 : Int), v20 = .bool x20_4 ∧ v22 = .int .i64 x22_4 ∧ v23 = .int .i64 x23_4 ∧ Aside0 (laws_FnExcess.l1 kq t333 t336 t346 t347 t348 x20_4 x21_3 x22_4 x23_4 = some r) ∧ Aside0 (kq ≤ k3) ∧ Aside0 (Kd.R (Kd.int .i64) 2 w' w.heap.size (fun _ => True) (.slice Ao12 t333.length co12) t333) ∧ Aside0 (Below w.heap.size w w'))
                      case atStart => exact ⟨(x20_3), (0), (x21_3), (by first | rfl | (simp; done) | (simp [*]; done)), (by first | rfl | (simp; done) | (simp [*]; done)), (by first | rfl | (simp; done) | (simp [*]; done)), H', ⟨Nat.le_refl _⟩, ⟨by (with_reducible repeat (first | apply Kd.R_alloc | apply Kd.R_drewN | apply Kd.R_drew)); exact HO_5.out⟩, ⟨by repeat (first | (with_reducible first | exact HB.out | apply below_alloc | apply pw_below_drewN | apply below_drew1) | exact HB.out)⟩⟩
                      case round =>
                        clear H'
                        try clear c1
                        try clear c2
                        try clear p2
                        try clear c4
                        try clear p6
                        try clear c7
                        try clear c15
                        try clear c16
                        try clear c17
                        try clear c19
                        try clear c19b0
                        try clear c21
                        try clear c22
                        try clear c23
                        try clear c24
                        try clear c25
                        try clear c25b0
                        try clear c25b1
                        try clear c25b2
                        try clear c28
                        try clear c28b0
                        try clear p2
                        try clear p6
                        obtain ⟨x20_4, x22_4, x23_4, rfl, rfl, rfl, HA, HK4, HO_5, HB⟩ := hrel
                        cases gk with
                        | zero => exact absurd HA.out (by simp [laws_FnExcess.l1])
                        | succ k4 =>
                          have H := HA.out
                          clear HA
                          simp only [laws_FnExcess.l1] at H
                          by_cases c29 : x23_4 < (t333.length : Int)
                          · rw [if_pos c29] at H
                            have c29b0 : decide (x23_4 < (t333.length : Int)) = true := decide_eq_true c29
                            clear c29
                            by_cases c30 : 0 ≤ x23_4
                            · rw [if_pos c30] at H
                              have c30b0 : decide (0 ≤ x23_4) = true := decide_eq_true c30
                              clear c30
                              by_cases c31 : (wrap64 (x22_4 + (wrap64 ((rd t333 x23_4) - t336)))) > t348
                              · rw [if_pos c31] at H
                                have c31b0 : decide (t348 < (wrap64 (x22_4 + (wrap64 ((rd t333 x23_4) - t336))))) = true := decide_eq_true c31
                                clear c31
                                obtain rfl := Option.some.inj H
                                have p350 : 0 ≤ (x23_4 : Int) := of_decide_eq_true (by first | (with_reducible assumption) | assumption)
                                have q350 : x23_4 < (t333.length : Int) := of_decide_eq_true (by first | (with_reducible assumption) | assumption)
                                obtain ⟨ad350, e350, hx350_0⟩ := Kd.at_int (Kd.R_reads' HO_5.out).2.2 x23_4 p350 q350
                                cases e350
                                replace p350 := eq_true p350
                                replace q350 := eq_true q350
                                go_wp2
                                go_ret
                                exact ⟨by first | rfl | (simp [errW_none, errW_some] <;> rfl) | (simp [*, errW_none, errW_some] <;> rfl), by repeat (first | (with_reducible first | exact HB.out | apply below_alloc | apply pw_below_drewN | apply below_drew1) | exact HB.out)⟩
                              · rw [if_neg c31] at H
                                have c31b0 : decide (t348 < (wrap64 (x22_4 + (wrap64 ((rd t333 x23_4) - t336))))) = false := decide_eq_false c31
                                clear c31
                                have HC32 := Aside0.mk H
                                clear H
                                have p350 : 0 ≤ (x23_4 : Int) := of_decide_eq_true (by first | (with_reducible assumption) | assumption)
                                have q350 : x23_4 < (t333.length : Int) := of_decide_eq_true (by first | (with_reducible assumption) | assumption)
                                obtain ⟨ad350, e350, hx350_0⟩ := Kd.at_int (Kd.R_reads' HO_5.out).2.2 x23_4 p350 q350
                                cases e350
                                replace p350 := eq_true p350
                                replace q350 := eq_true q350
                                go_upto_region 28 with (fail)
                                go_cut [114] (fun v114 wc => ∃ (kq : Nat) (x114_31 : Bool), v114 = .bool x114_31 ∧ Aside0 (laws_FnExcess.j4 kq t333 t336 t346 t347 t348 x20_4 x21_3 (wrap64 (x22_4 + (wrap64 ((rd t333 x23_4) - t336)))) x23_4 x114_31 = some r) ∧ Aside0 (kq ≤ k4) ∧ Aside0 (Kd.R (Kd.int .i64) 2 wc w.heap.size (fun _ => True) (.slice (some ad350) t333.length co12) t333) ∧ Aside0 (Below w.heap.size w wc))
                                case first =>
                                  have H := HC32.out
                                  clear HC32
                                  by_cases c33 : (wrap64 (x22_4 + (wrap64 ((rd t333 x23_4) - t336)))) = t348
                                  · rw [if_pos c33] at H
                                    have c33b0 : ((wrap64 (x22_4 + (wrap64 ((rd t333 x23_4) - t336)))) == t348) = true := beq_iff_eq.mpr c33
                                    have c33b1 : ((wrap64 (x22_4 + (wrap64 ((rd t333 x23_4) - t336)))) != t348) = false := bne_eq_false_iff_eq.mpr c33
                                    clear c33
                                    (first | rw [c33b0] | (simp only [i64_w, i32_w]; rw [c33b0]) | skip)
                                    have H' := Aside0.mk H
                                    clear H
                                    go_wp2
                                    go_meet
                                    case rel => exact ⟨_, (!x20_4), (by first | rfl | (simp; done) | (simp [*]; done)), H', ⟨by have := HJ9.out; have := HJ17.out; have := HK3.out; have := HK4.out; first | omega | exact Nat.le_refl _⟩, ⟨by (with_reducible repeat (first | apply Kd.R_alloc | apply Kd.R_drewN | apply Kd.R_drew)); exact HO_5.out⟩, ⟨by repeat (first | (with_reducible first | exact HB.out | apply below_alloc | apply pw_below_drewN | apply below_drew1) | exact HB.out)⟩⟩
                                  · rw [if_neg c33] at H
                                    have c33b0 : ((wrap64 (x22_4 + (wrap64 ((rd t333 x23_4) - t336)))) == t348) = false := beq_eq_false_iff_ne.mpr c33
                                    have c33b1 : ((wrap64 (x22_4 + (wrap64 ((rd t333 x23_4) - t336)))) != t348) = true := bne_iff_ne.mpr c33
                                    (first | rw [c33b0] | (simp only [i64_w, i32_w]; rw [c33b0]) | skip)
                                    have H' := Aside0.mk H
                                    clear H
                                    go_wp2
                                    go_meet
                                    case rel => exact ⟨_, (false), (by first | rfl | (simp; done) | (simp [*]; done)), H', ⟨by have := HJ9.out; have := HJ17.out; have := HK3.out; have := HK4.out; first | omega | exact Nat.le_refl _⟩, ⟨by (with_reducible repeat (first | apply Kd.R_alloc | apply Kd.R_drewN | apply Kd.R_drew)); exact HO_5.out⟩, ⟨by repeat (first | (with_reducible first | exact HB.out | apply below_alloc | apply pw_below_drewN | apply below_drew1) | exact HB.out)⟩⟩
                                case rest =>
                                  clear HC32
                                  try clear c1
                                  try clear c2
                                  try clear p2
                                  try clear c3
                                  try clear p3
                                  try clear q3
                                  try clear hx3
                                  try clear c4
                                  try clear p6
                                  try clear c7
                                  try clear c15
                                  try clear c16
                                  try clear c17
                                  try clear c19
                                  try clear c19b0
                                  try clear c21
                                  try clear c22
                                  try clear c23
                                  try clear c24
                                  try clear c25
                                  try clear c25b0
                                  try clear c25b1
                                  try clear c25b2
                                  try clear c28
                                  try clear c28b0
                                  try clear c29
                                  try clear c29b0
                                  try clear c30
                                  try clear c30b0
                                  try clear c31
                                  try clear c31b0
                                  try clear c33
                                  try clear c33b0
                                  try clear c33b1
                                  try clear hx350_0
                                  try clear p2
                                  try clear p350
                                  try clear p6
                                  try clear q350
                                  obtain ⟨kq, x114_31, rfl, HA, HJ31, HO_5, HB⟩ := hcut
                                  cases kq with
                                  | zero => exact absurd HA.out (by simp [laws_FnExcess.j4])
                                  | succ kj31 =>
                                    have H := HA.out
                                    clear HA
                                    simp only [laws_FnExcess.j4] at H
                                    by_cases c34 : x114_31 = true
                                    · subst c34
                                      have H1 : (if x21_3 = t346 then (if x23_4 = t347 then (laws_FnExcess.l1 kj31 t333 t336 t346 t347 t348 true x21_3 (wrap64 (x22_4 + (wrap64 ((rd t333 x23_4) - t336)))) (wrap64 (x23_4 + 1))) else (some false)) else (some false)) = some r := by rw [if_pos rfl] at H; exact H
                                      clear H
                                      have H := H1
                                      clear H1
                                      by_cases c35 : x21_3 = t346
                                      · rw [if_pos c35] at H
                                        have c35b0 : (x21_3 == t346) = true := beq_iff_eq.mpr c35
                                        have c35b1 : (x21_3 != t346) = false := bne_eq_false_iff_eq.mpr c35
                                        clear c35
                                        by_cases c36 : x23_4 = t347
                                        · rw [if_pos c36] at H
                                          have c36b0 : (x23_4 == t347) = true := beq_iff_eq.mpr c36
                                          have c36b1 : (x23_4 != t347) = false := bne_eq_false_iff_eq.mpr c36
                                          clear c36
                                          have H' := Aside0.mk H
                                          clear H
                                          go_wp2
                                          go_roundg kj31
                                          case measure => have := HJ9.out; have := HJ17.out; have := HK3.out; have := HK4.out; have := HJ31.out; omega
                                          case rel => exact ⟨(true), ((wrap64 (x22_4 + (wrap64 ((rd t333 x23_4) - t336))))), (wrap64 (x23_4 + 1)), (by first | rfl | (simp; done) | (simp [*]; done)), (by first | rfl | (simp; done) | (simp [*]; done)), (by first | rfl | (simp; done) | (simp [*]; done)), H', ⟨by have := HJ9.out; have := HJ17.out; have := HK3.out; have := HK4.out; have := HJ31.out; omega⟩, ⟨by (with_reducible repeat (first | apply Kd.R_alloc | apply Kd.R_drewN | apply Kd.R_drew)); exact HO_5.out⟩, ⟨by repeat (first | (with_reducible first | exact HB.out | apply below_alloc | apply pw_below_drewN | apply below_drew1) | exact HB.out)⟩⟩
                                        · rw [if_neg c36] at H
                                          have c36b0 : (x23_4 == t347) = false := beq_eq_false_iff_ne.mpr c36
                                          have c36b1 : (x23_4 != t347) = true := bne_iff_ne.mpr c36
                                          obtain rfl := Option.some.inj H
                                          go_wp2
                                          go_ret
                                          exact ⟨by first | rfl | (simp [errW_none, errW_some] <;> rfl) | (simp [*, errW_none, errW_some] <;> rfl), by repeat (first | (with_reducible first | exact HB.out | apply below_alloc | apply pw_below_drewN | apply below_drew1) | exact HB.out)⟩
                                      · rw [if_neg c35] at H
                                        have c35b0 : (x21_3 == t346) = false := beq_eq_false_iff_ne.mpr c35
                                        have c35b1 : (x21_3 != t346) = true := bne_iff_ne.mpr c35
                                        obtain rfl := Option.some.inj H
                                        go_wp2
                                        go_ret
                                        exact ⟨by first | rfl | (simp [errW_none, errW_some] <;> rfl) | (simp [*, errW_none, errW_some] <;> rfl), by repeat (first | (with_reducible first | exact HB.out | apply below_alloc | apply pw_below_drewN | apply below_drew1) | exact HB.out)⟩
                                    · replace c34 := Bool.eq_false_iff.mpr c34
                                      subst c34
                                      have H1 : (laws_FnExcess.l1 kj31 t333 t336 t346 t347 t348 x20_4 x21_3 (wrap64 (x22_4 + (wrap64 ((rd t333 x23_4) - t336)))) (wrap64 (x23_4 + 1))) = some r := by rw [if_neg (show ¬ (false = true) by decide)] at H; exact H
                                      clear H
                                      have H := H1
                                      clear H1
                                      have H' := Aside0.mk H
                                      clear H
                                      go_wp2
                                      go_roundg kj31
                                      case measure => have := HJ9.out; have := HJ17.out; have := HK3.out; have := HK4.out; have := HJ31.out; omega
                                      case rel => exact ⟨(x20_4), ((wrap64 (x22_4 + (wrap64 ((rd t333 x23_4) - t336))))), (wrap64 (x23_4 + 1)), (by first | rfl | (simp; done) | (simp [*]; done)), (by first | rfl | (simp; done) | (simp [*]; done)), (by first | rfl | (simp; done) | (simp [*]; done)), H', ⟨by have := HJ9.out; have := HJ17.out; have := HK3.out; have := HK4.out; have := HJ31.out; omega⟩, ⟨by (with_reducible repeat (first | apply Kd.R_alloc | apply Kd.R_drewN | apply Kd.R_drew)); exact HO_5.out⟩, ⟨by repeat (first | (with_reducible first | exact HB.out | apply below_alloc | apply pw_below_drewN | apply below_drew1) | exact HB.out)⟩⟩
                            · rw [if_neg c30] at H
                              exact absurd H (by simp)
                          · rw [if_neg c29] at H
                            have c29b0 : decide (x23_4 < (t333.length : Int)) = false := decide_eq_false c29
                            clear c29
                            have H' := Aside0.mk H
                            clear H
                            go_wp2
                            go_roundg k4
                            case measure => have := HJ9.out; have := HJ17.out; have := HK3.out; have := HK4.out; omega
                            case rel => exact ⟨(x20_4), (wrap64 (x21_3 + 1)), (by first | rfl | (simp; done) | (simp [*]; done)), (by first | rfl | (simp; done) | (simp [*]; done)), H', ⟨by have := HJ9.out; have := HJ17.out; have := HK3.out; have := HK4.out; omega⟩, ⟨by (with_reducible repeat (first | apply Kd.R_alloc | apply Kd.R_drewN | apply Kd.R_drew)); exact HO_5.out⟩, ⟨by repeat (first | (with_reducible first | exact HB.out | apply below_alloc | apply pw_below_drewN | apply below_drew1) | exact HB.out)⟩⟩
                    · rw [if_neg c28] at H
                      have c28b0 : decide (x21_3 < (t333.length : Int)) = false := decide_eq_false c28
                      clear c28
                      obtain rfl := Option.some.inj H
                      go_wp2
                      go_ret
                      exact ⟨by first | rfl | (simp [errW_none, errW_some] <;> rfl) | (simp [*, errW_none, errW_some] <;> rfl), by repeat (first | (with_reducible first | exact HB.out | apply below_alloc | apply pw_below_drewN | apply below_drew1) | exact HB.out)⟩

/-- THE ONE PURE STATEMENT of laws_FnExcess: yours. -/
def laws_FnExcess.Pure : Prop := ∀ (l0 : List Int) (l1 : List Int), l0.length ≤ maxLen → l0.length * 1 ≤ 140737488351232 → (∀ x ∈ l0, (Lit.int .u8 x).wf = true) → l1.length ≤ maxLen → l1.length * 1 ≤ 140737488351232 → (∀ x ∈ l1, (Lit.int .u8 x).wf = true) → ∃ k, laws_FnExcess.f k l0 l1 = some true
theorem laws_FnExcess.walk (P : laws_FnExcess.Pure) (a0 : Option Addr) (len0 cap0 : Nat) (z0 : List Int) (a1 : Option Addr) (len1 cap1 : Nat) (z1 : List Int) (w : World) (w0 : (a0 = none ∧ len0 = 0 ∧ cap0 = 0 ∧ z0 = []) ∨ ∃ x, a0 = some x ∧ len0 ≤ cap0 ∧ cap0 ≤ maxLen ∧ z0.length = cap0 ∧ (∀ i, i < z0.length → w.cell? (x.add i) = some (.int .u8 (z0.getD i 0))) ∧ ∀ n ∈ z0, (Lit.int .u8 n).wf = true) (y0 : len0 * 1 ≤ 140737488351232) (w1 : (a1 = none ∧ len1 = 0 ∧ cap1 = 0 ∧ z1 = []) ∨ ∃ x, a1 = some x ∧ len1 ≤ cap1 ∧ cap1 ≤ maxLen ∧ z1.length = cap1 ∧ (∀ i, i < z1.length → w.cell? (x.add i) = some (.int .u8 (z1.getD i 0))) ∧ ∀ n ∈ z1, (Lit.int .u8 n).wf = true) (y1 : len1 * 1 ≤ 140737488351232) :
    Calls Try.prog 7 #[.slice a0 len0 cap0, .slice a1 len1 cap1] w fun e w' => e = .returned (.bool true) ∧ Below w.heap.size w w' := by
  obtain ⟨l0, rfl, hr0, hm0, hw0, hc0⟩ := ReadsInt.ofRowC w0
  obtain ⟨l1, rfl, hr1, hm1, hw1, hc1⟩ := ReadsInt.ofRowC w1
  obtain ⟨k, h⟩ := P l0 l1 hm0 y0 hw0 hm1 y1 hw1
  refine (laws_FnExcess.calls k _ _ l0 _ _ l1 true w (Kd.C_of_reads (d := (0 : Int)) (h1 := fun _ => rfl) hr0) hc0 (Kd.C_of_reads (d := (0 : Int)) (h1 := fun _ => rfl) hr1) hc1 h).mono ?_
  rintro e w' ⟨rfl, hd⟩
  exact ⟨rfl, hd⟩

end Go.Proofs.Ytbabgpkfppdfnaa.G
