-- laid by wip/tools/regroup.py: printed functions, grouped by the laws that need them. Lean checks it.
import Derived.Test.YtkmnllcccgnliaaGx0
import Derived.Test.YtkmnllcccgnliaaGy0
import Derived.Test.YtkmnllcccgnliaaGy1
import Derived.Test.YtkmnllcccgnliaaGy4
import Derived.Test.YtkmnllcccgnliaaGy6
import Derived.Test.YtkmnllcccgnliaaGy14
import Derived.Test.YtkmnllcccgnliaaGy15
namespace Go.Proofs.Ytkmnllcccgnliaa.G
open Go.RowKit Go.Proofs.YtkmnllcccgnliaaW.PrintWords Go.Proofs.YtkmnllcccgnliaaW.PrintLast Go.Proofs.YtkmnllcccgnliaaW.PrintMore
attribute [local go_sem] max2_int min2_int max_two min_two max_three min_three max_four min_four   -- for this text's walks alone
set_option linter.unusedVariables false
set_option linter.unusedSimpArgs false

/-! ### laws_FnExactNormalAxis: function 9 -/
mutual
def laws_FnExactNormalAxis.j0 : Nat → Bool → Bool → Bool → Int → Int → Int → Int → List (S105) → Int → Int → Int → Int → List (S69) → Int → Int → Int → Int → List (S69) → Int → Int → Int → Int → List (S69) → Option (Bool)
 | 0, _, _, _, _, _, _, _, _, _, _, _, _, _, _, _, _, _, _, _, _, _, _, _ => none
 | k + 1, x5, x8, x40, x842000, x842001, x842002, x842003, x842004, x859000, x859001, x859002, x859003, x859004, x867000, x867001, x867002, x867003, x867004, x876000, x876001, x876002, x876003, x876004 => if x40 = true then (some false) else ((laws_toAxis.f k x842000 x842001 x842002 x842003 x842004).bind fun bt877 => ((laws_eqAxis.f k x867000 x867001 x867002 x867003 x867004 bt877.1 bt877.2.1 bt877.2.2.1 bt877.2.2.2.1 bt877.2.2.2.2).bind fun t884 => (if t884 = true then ((laws_markAxis.f k x867000 x867001 x867002 x867003 x867004 1).bind fun bt885 => (if bt885.1 < 0 then (laws_FnExactNormalAxis.j1 k x5 true x842000 x842001 x842002 x842003 x842004 x859000 x859001 x859002 x859003 x859004 x876000 x876001 x876002 x876003 x876004) else ((laws_eqAxis.f k x876000 x876001 x876002 x876003 x876004 x859000 x859001 x859002 x859003 x859004).bind fun t887 => (if t887 = true then (laws_FnExactNormalAxis.j1 k x5 (x8 != x5) x842000 x842001 x842002 x842003 x842004 x859000 x859001 x859002 x859003 x859004 x876000 x876001 x876002 x876003 x876004) else (laws_FnExactNormalAxis.j1 k x5 true x842000 x842001 x842002 x842003 x842004 x859000 x859001 x859002 x859003 x859004 x876000 x876001 x876002 x876003 x876004))))) else (some false))))
def laws_FnExactNormalAxis.j1 : Nat → Bool → Bool → Int → Int → Int → Int → List (S105) → Int → Int → Int → Int → List (S69) → Int → Int → Int → Int → List (S69) → Option (Bool)
 | 0, _, _, _, _, _, _, _, _, _, _, _, _, _, _, _, _, _ => none
 | k + 1, x5, x61, x842000, x842001, x842002, x842003, x842004, x859000, x859001, x859002, x859003, x859004, x876000, x876001, x876002, x876003, x876004 => if x61 = true then (some false) else ((laws_markAxis.f k x876000 x876001 x876002 x876003 x876004 1).bind fun bt888 => ((laws_heldAxis.f k x876000 x876001 x876002 x876003 bt888.2 1).bind fun t890 => (if t890 < 0 then (some false) else (if t890 = bt888.1 then ((laws_toAxis.f k x842000 x842001 x842002 x842003 x842004).bind fun bt891 => ((impl_NormalAxis.f k bt891.1 bt891.2.1 bt891.2.2.1 bt891.2.2.2.1 bt891.2.2.2.2).bind fun bt898 => ((laws_eqAxis.f k bt898.1 bt898.2.1 bt898.2.2.1 bt898.2.2.2.1 bt898.2.2.2.2.1 x859000 x859001 x859002 x859003 x859004).bind fun t907 => (if t907 = true then (laws_FnExactNormalAxis.j2 k bt888.1 (bt898.2.2.2.2.2 != x5) x876000 x876001 x876002 x876003 bt888.2) else (laws_FnExactNormalAxis.j2 k bt888.1 true x876000 x876001 x876002 x876003 bt888.2))))) else (some false)))))
def laws_FnExactNormalAxis.j2 : Nat → Int → Bool → Int → Int → Int → Int → List (S69) → Option (Bool)
 | 0, _, _, _, _, _, _, _ => none
 | k + 1, x10, x87, x876000, x876001, x876002, x876003, x876004 => if x87 = true then (some false) else ((laws_heldAxis.f k x876000 x876001 x876002 x876003 x876004 1).bind fun t908 => (if t908 < 0 then (some false) else (if t908 = x10 then (some true) else (some false))))
end
def laws_FnExactNormalAxis.f (k : Nat) (a0_0 : Int) (a0_1 : Int) (a0_2 : Int) (a0_3 : Int) (l0_4 : List (S105)) : Option (Bool) := (laws_szAxis.f a0_0 a0_1 a0_2 a0_3 l0_4 1048576).bind fun t842 => (if t842 < 0 then (some true) else ((laws_toAxis.f k a0_0 a0_1 a0_2 a0_3 l0_4).bind fun bt843 => ((spec_NormalAxis.f k bt843.1 bt843.2.1 bt843.2.2.1 bt843.2.2.2.1 bt843.2.2.2.2).bind fun bt850 => ((laws_toAxis.f k a0_0 a0_1 a0_2 a0_3 l0_4).bind fun bt859 => ((impl_NormalAxis.f k bt859.1 bt859.2.1 bt859.2.2.1 bt859.2.2.2.1 bt859.2.2.2.2).bind fun bt867 => ((laws_eqAxis.f k bt867.1 bt867.2.1 bt867.2.2.1 bt867.2.2.2.1 bt867.2.2.2.2.1 bt850.1 bt850.2.1 bt850.2.2.1 bt850.2.2.2.1 bt850.2.2.2.2.1).bind fun t876 => (if t876 = true then (laws_FnExactNormalAxis.j0 k bt850.2.2.2.2.2 bt867.2.2.2.2.2 (bt867.2.2.2.2.2 != bt850.2.2.2.2.2) a0_0 a0_1 a0_2 a0_3 l0_4 bt850.1 bt850.2.1 bt850.2.2.1 bt850.2.2.2.1 bt850.2.2.2.2.1 bt859.1 bt859.2.1 bt859.2.2.1 bt859.2.2.2.1 bt859.2.2.2.2 bt867.1 bt867.2.1 bt867.2.2.1 bt867.2.2.2.1 bt867.2.2.2.2.1) else (laws_FnExactNormalAxis.j0 k bt850.2.2.2.2.2 bt867.2.2.2.2.2 true a0_0 a0_1 a0_2 a0_3 l0_4 bt850.1 bt850.2.1 bt850.2.2.1 bt850.2.2.2.1 bt850.2.2.2.2.1 bt859.1 bt859.2.1 bt859.2.2.1 bt859.2.2.2.1 bt859.2.2.2.2 bt867.1 bt867.2.1 bt867.2.2.1 bt867.2.2.2.1 bt867.2.2.2.2.1))))))))
theorem laws_FnExactNormalAxis.mono_l : ∀ k, (∀ y0 y1 y2 y3 y4 y5 y6 y7 y8 y9 y10 y11 y12 y13 y14 y15 y16 y17 y18 y19 y20 y21 y22, LeO (laws_FnExactNormalAxis.j0 k y0 y1 y2 y3 y4 y5 y6 y7 y8 y9 y10 y11 y12 y13 y14 y15 y16 y17 y18 y19 y20 y21 y22) (laws_FnExactNormalAxis.j0 (k + 1) y0 y1 y2 y3 y4 y5 y6 y7 y8 y9 y10 y11 y12 y13 y14 y15 y16 y17 y18 y19 y20 y21 y22)) ∧ (∀ y0 y1 y2 y3 y4 y5 y6 y7 y8 y9 y10 y11 y12 y13 y14 y15 y16, LeO (laws_FnExactNormalAxis.j1 k y0 y1 y2 y3 y4 y5 y6 y7 y8 y9 y10 y11 y12 y13 y14 y15 y16) (laws_FnExactNormalAxis.j1 (k + 1) y0 y1 y2 y3 y4 y5 y6 y7 y8 y9 y10 y11 y12 y13 y14 y15 y16)) ∧ (∀ y0 y1 y2 y3 y4 y5 y6, LeO (laws_FnExactNormalAxis.j2 k y0 y1 y2 y3 y4 y5 y6) (laws_FnExactNormalAxis.j2 (k + 1) y0 y1 y2 y3 y4 y5 y6))
 | 0 => ⟨fun _ _ _ _ _ _ _ _ _ _ _ _ _ _ _ _ _ _ _ _ _ _ _ r h => by simp [laws_FnExactNormalAxis.j0] at h, fun _ _ _ _ _ _ _ _ _ _ _ _ _ _ _ _ _ r h => by simp [laws_FnExactNormalAxis.j1] at h, fun _ _ _ _ _ _ _ r h => by simp [laws_FnExactNormalAxis.j2] at h⟩
 | k + 1 => by
  obtain ⟨ih0, ih1, ih2⟩ := laws_FnExactNormalAxis.mono_l k
  refine ⟨?_, ?_, ?_⟩
  ·intro y0 y1 y2 y3 y4 y5 y6 y7 y8 y9 y10 y11 y12 y13 y14 y15 y16 y17 y18 y19 y20 y21 y22
   unfold laws_FnExactNormalAxis.j0
   repeat' first
   | (with_reducible exact ih0 _ _ _ _ _ _ _ _ _ _ _ _ _ _ _ _ _ _ _ _ _ _ _)
   | (with_reducible exact ih1 _ _ _ _ _ _ _ _ _ _ _ _ _ _ _ _ _)
   | (with_reducible exact ih2 _ _ _ _ _ _ _)
   | (with_reducible exact impl_NormalAxis.mono _ _ _ _ _ _)
   | (with_reducible exact laws_eqAxis.mono _ _ _ _ _ _ _ _ _ _ _)
   | (with_reducible exact laws_heldAxis.mono _ _ _ _ _ _ _)
   | (with_reducible exact laws_markAxis.mono _ _ _ _ _ _ _)
   | (with_reducible exact laws_toAxis.mono _ _ _ _ _ _)
   | (with_reducible exact spec_NormalAxis.mono _ _ _ _ _ _)
   | (with_reducible exact LeO.refl _)
   | (with_reducible exact LeO.none _)
   | (with_reducible refine LeO.ite ?_ ?_)
   | (with_reducible refine LeO.bind ?_ (fun _ => ?_))
   | exact ih0 _ _ _ _ _ _ _ _ _ _ _ _ _ _ _ _ _ _ _ _ _ _ _
   | exact ih1 _ _ _ _ _ _ _ _ _ _ _ _ _ _ _ _ _
   | exact ih2 _ _ _ _ _ _ _
   | exact impl_NormalAxis.mono _ _ _ _ _ _
   | exact laws_eqAxis.mono _ _ _ _ _ _ _ _ _ _ _
   | exact laws_heldAxis.mono _ _ _ _ _ _ _
   | exact laws_markAxis.mono _ _ _ _ _ _ _
   | exact laws_toAxis.mono _ _ _ _ _ _
   | exact spec_NormalAxis.mono _ _ _ _ _ _
   | exact LeO.none _
   | refine LeO.ite ?_ ?_
   | refine LeO.bind ?_ (fun _ => ?_)
  ·intro y0 y1 y2 y3 y4 y5 y6 y7 y8 y9 y10 y11 y12 y13 y14 y15 y16
   unfold laws_FnExactNormalAxis.j1
   repeat' first
   | (with_reducible exact ih0 _ _ _ _ _ _ _ _ _ _ _ _ _ _ _ _ _ _ _ _ _ _ _)
   | (with_reducible exact ih1 _ _ _ _ _ _ _ _ _ _ _ _ _ _ _ _ _)
   | (with_reducible exact ih2 _ _ _ _ _ _ _)
   | (with_reducible exact impl_NormalAxis.mono _ _ _ _ _ _)
   | (with_reducible exact laws_eqAxis.mono _ _ _ _ _ _ _ _ _ _ _)
   | (with_reducible exact laws_heldAxis.mono _ _ _ _ _ _ _)
   | (with_reducible exact laws_markAxis.mono _ _ _ _ _ _ _)
   | (with_reducible exact laws_toAxis.mono _ _ _ _ _ _)
   | (with_reducible exact spec_NormalAxis.mono _ _ _ _ _ _)
   | (with_reducible exact LeO.refl _)
   | (with_reducible exact LeO.none _)
   | (with_reducible refine LeO.ite ?_ ?_)
   | (with_reducible refine LeO.bind ?_ (fun _ => ?_))
   | exact ih0 _ _ _ _ _ _ _ _ _ _ _ _ _ _ _ _ _ _ _ _ _ _ _
   | exact ih1 _ _ _ _ _ _ _ _ _ _ _ _ _ _ _ _ _
   | exact ih2 _ _ _ _ _ _ _
   | exact impl_NormalAxis.mono _ _ _ _ _ _
   | exact laws_eqAxis.mono _ _ _ _ _ _ _ _ _ _ _
   | exact laws_heldAxis.mono _ _ _ _ _ _ _
   | exact laws_markAxis.mono _ _ _ _ _ _ _
   | exact laws_toAxis.mono _ _ _ _ _ _
   | exact spec_NormalAxis.mono _ _ _ _ _ _
   | exact LeO.none _
   | refine LeO.ite ?_ ?_
   | refine LeO.bind ?_ (fun _ => ?_)
  ·intro y0 y1 y2 y3 y4 y5 y6
   unfold laws_FnExactNormalAxis.j2
   repeat' first
   | (with_reducible exact ih0 _ _ _ _ _ _ _ _ _ _ _ _ _ _ _ _ _ _ _ _ _ _ _)
   | (with_reducible exact ih1 _ _ _ _ _ _ _ _ _ _ _ _ _ _ _ _ _)
   | (with_reducible exact ih2 _ _ _ _ _ _ _)
   | (with_reducible exact impl_NormalAxis.mono _ _ _ _ _ _)
   | (with_reducible exact laws_eqAxis.mono _ _ _ _ _ _ _ _ _ _ _)
   | (with_reducible exact laws_heldAxis.mono _ _ _ _ _ _ _)
   | (with_reducible exact laws_markAxis.mono _ _ _ _ _ _ _)
   | (with_reducible exact laws_toAxis.mono _ _ _ _ _ _)
   | (with_reducible exact spec_NormalAxis.mono _ _ _ _ _ _)
   | (with_reducible exact LeO.refl _)
   | (with_reducible exact LeO.none _)
   | (with_reducible refine LeO.ite ?_ ?_)
   | (with_reducible refine LeO.bind ?_ (fun _ => ?_))
   | exact ih0 _ _ _ _ _ _ _ _ _ _ _ _ _ _ _ _ _ _ _ _ _ _ _
   | exact ih1 _ _ _ _ _ _ _ _ _ _ _ _ _ _ _ _ _
   | exact ih2 _ _ _ _ _ _ _
   | exact impl_NormalAxis.mono _ _ _ _ _ _
   | exact laws_eqAxis.mono _ _ _ _ _ _ _ _ _ _ _
   | exact laws_heldAxis.mono _ _ _ _ _ _ _
   | exact laws_markAxis.mono _ _ _ _ _ _ _
   | exact laws_toAxis.mono _ _ _ _ _ _
   | exact spec_NormalAxis.mono _ _ _ _ _ _
   | exact LeO.none _
   | refine LeO.ite ?_ ?_
   | refine LeO.bind ?_ (fun _ => ?_)
theorem laws_FnExactNormalAxis.mono : ∀ a0 a1 a2 a3 a4 k, LeO (laws_FnExactNormalAxis.f k a0 a1 a2 a3 a4) (laws_FnExactNormalAxis.f (k + 1) a0 a1 a2 a3 a4) := by
 intro a0 a1 a2 a3 a4 k
 obtain ⟨ih0, ih1, ih2⟩ := laws_FnExactNormalAxis.mono_l k
 unfold laws_FnExactNormalAxis.f
 repeat' first
   | (with_reducible exact ih0 _ _ _ _ _ _ _ _ _ _ _ _ _ _ _ _ _ _ _ _ _ _ _)
   | (with_reducible exact ih1 _ _ _ _ _ _ _ _ _ _ _ _ _ _ _ _ _)
   | (with_reducible exact ih2 _ _ _ _ _ _ _)
   | (with_reducible exact impl_NormalAxis.mono _ _ _ _ _ _)
   | (with_reducible exact laws_eqAxis.mono _ _ _ _ _ _ _ _ _ _ _)
   | (with_reducible exact laws_heldAxis.mono _ _ _ _ _ _ _)
   | (with_reducible exact laws_markAxis.mono _ _ _ _ _ _ _)
   | (with_reducible exact laws_toAxis.mono _ _ _ _ _ _)
   | (with_reducible exact spec_NormalAxis.mono _ _ _ _ _ _)
   | (with_reducible exact LeO.refl _)
   | (with_reducible exact LeO.none _)
   | (with_reducible refine LeO.ite ?_ ?_)
   | (with_reducible refine LeO.bind ?_ (fun _ => ?_))
   | exact ih0 _ _ _ _ _ _ _ _ _ _ _ _ _ _ _ _ _ _ _ _ _ _ _
   | exact ih1 _ _ _ _ _ _ _ _ _ _ _ _ _ _ _ _ _
   | exact ih2 _ _ _ _ _ _ _
   | exact impl_NormalAxis.mono _ _ _ _ _ _
   | exact laws_eqAxis.mono _ _ _ _ _ _ _ _ _ _ _
   | exact laws_heldAxis.mono _ _ _ _ _ _ _
   | exact laws_markAxis.mono _ _ _ _ _ _ _
   | exact laws_toAxis.mono _ _ _ _ _ _
   | exact spec_NormalAxis.mono _ _ _ _ _ _
   | exact LeO.none _
   | refine LeO.ite ?_ ?_
   | refine LeO.bind ?_ (fun _ => ?_)
set_option maxHeartbeats 8000000 in
set_option maxRecDepth 100000 in
theorem laws_FnExactNormalAxis.calls (k : Nat) (a0_0 : Int) (a0_1 : Int) (a0_2 : Int) (a0_3 : Int) (A0_4 : Option Addr) (c0_4 : Nat) (l0_4 : List (S105)) (r : Bool) (w : World) (hr0_4 : Kd.C k105 w A0_4 l0_4.length l0_4) (hc0_4 : l0_4.length ≤ c0_4) (h : laws_FnExactNormalAxis.f k a0_0 a0_1 a0_2 a0_3 l0_4 = some r) :
  Calls Try.prog 9 #[.agg #[.int .i64 a0_0, .int .i64 a0_1, .int .i64 a0_2, .int .i64 a0_3, .slice A0_4 l0_4.length c0_4]] w fun e w' => e = .returned (.bool r) ∧ Below w.heap.size w w' := by
 have hu26 := Try.underlying26
 have hu33 := Try.underlying33
 have HR0_4 := Aside0.mk hr0_4
 have HC0_4 := Aside0.mk hc0_4
 clear hr0_4 hc0_4
 have HB := Aside0.mk (Below.refl w.heap.size w)
 have H : ((laws_szAxis.f a0_0 a0_1 a0_2 a0_3 l0_4 1048576).bind fun t842 => (if t842 < 0 then (some true) else ((laws_toAxis.f k a0_0 a0_1 a0_2 a0_3 l0_4).bind fun bt843 => ((spec_NormalAxis.f k bt843.1 bt843.2.1 bt843.2.2.1 bt843.2.2.2.1 bt843.2.2.2.2).bind fun bt850 => ((laws_toAxis.f k a0_0 a0_1 a0_2 a0_3 l0_4).bind fun bt859 => ((impl_NormalAxis.f k bt859.1 bt859.2.1 bt859.2.2.1 bt859.2.2.2.1 bt859.2.2.2.2).bind fun bt867 => ((laws_eqAxis.f k bt867.1 bt867.2.1 bt867.2.2.1 bt867.2.2.2.1 bt867.2.2.2.2.1 bt850.1 bt850.2.1 bt850.2.2.1 bt850.2.2.2.1 bt850.2.2.2.2.1).bind fun t876 => (if t876 = true then (laws_FnExactNormalAxis.j0 k bt850.2.2.2.2.2 bt867.2.2.2.2.2 (bt867.2.2.2.2.2 != bt850.2.2.2.2.2) a0_0 a0_1 a0_2 a0_3 l0_4 bt850.1 bt850.2.1 bt850.2.2.1 bt850.2.2.2.1 bt850.2.2.2.2.1 bt859.1 bt859.2.1 bt859.2.2.1 bt859.2.2.2.1 bt859.2.2.2.2 bt867.1 bt867.2.1 bt867.2.2.1 bt867.2.2.2.1 bt867.2.2.2.2.1) else (laws_FnExactNormalAxis.j0 k bt850.2.2.2.2.2 bt867.2.2.2.2.2 true a0_0 a0_1 a0_2 a0_3 l0_4 bt850.1 bt850.2.1 bt850.2.2.1 bt850.2.2.2.1 bt850.2.2.2.2.1 bt859.1 bt859.2.1 bt859.2.2.1 bt859.2.2.2.1 bt859.2.2.2.2 bt867.1 bt867.2.1 bt867.2.2.1 bt867.2.2.2.1 bt867.2.2.2.2.1))))))))) = some r := h
 clear h
 replace H := Option.bind_eq_some_iff.mp H
 obtain ⟨t842, A20, H⟩ := H
 replace H : (if t842 < 0 then (some true) else ((laws_toAxis.f k a0_0 a0_1 a0_2 a0_3 l0_4).bind fun bt843 => ((spec_NormalAxis.f k bt843.1 bt843.2.1 bt843.2.2.1 bt843.2.2.2.1 bt843.2.2.2.2).bind fun bt850 => ((laws_toAxis.f k a0_0 a0_1 a0_2 a0_3 l0_4).bind fun bt859 => ((impl_NormalAxis.f k bt859.1 bt859.2.1 bt859.2.2.1 bt859.2.2.2.1 bt859.2.2.2.2).bind fun bt867 => ((laws_eqAxis.f k bt867.1 bt867.2.1 bt867.2.2.1 bt867.2.2.2.1 bt867.2.2.2.2.1 bt850.1 bt850.2.1 bt850.2.2.1 bt850.2.2.2.1 bt850.2.2.2.2.1).bind fun t876 => (if t876 = true then (laws_FnExactNormalAxis.j0 k bt850.2.2.2.2.2 bt867.2.2.2.2.2 (bt867.2.2.2.2.2 != bt850.2.2.2.2.2) a0_0 a0_1 a0_2 a0_3 l0_4 bt850.1 bt850.2.1 bt850.2.2.1 bt850.2.2.2.1 bt850.2.2.2.2.1 bt859.1 bt859.2.1 bt859.2.2.1 bt859.2.2.2.1 bt859.2.2.2.2 bt867.1 bt867.2.1 bt867.2.2.1 bt867.2.2.2.1 bt867.2.2.2.2.1) else (laws_FnExactNormalAxis.j0 k bt850.2.2.2.2.2 bt867.2.2.2.2.2 true a0_0 a0_1 a0_2 a0_3 l0_4 bt850.1 bt850.2.1 bt850.2.2.1 bt850.2.2.2.1 bt850.2.2.2.2.1 bt859.1 bt859.2.1 bt859.2.2.1 bt859.2.2.2.1 bt859.2.2.2.2 bt867.1 bt867.2.1 bt867.2.2.1 bt867.2.2.2.1 bt867.2.2.2.2.1)))))))) = some r := H
 have A2 := Aside0.mk A20
 clear A20
 by_cases c3 : t842 < 0
 ·rw [if_pos c3] at H
  have c3b0 : decide (t842 < 0) = true := decide_eq_true c3
  clear c3
  obtain rfl := Option.some.inj H
  go_enter Try.func9, Try.ntmps9
  go_wp2_with (first | ((with_reducible refine gate_dst (N := 1) rfl ?_); refine box_event ?hg (N := 1) ?hd (cs := #[.int .i64 a0_0, .int .i64 a0_1, .int .i64 a0_2, .int .i64 a0_3, .slice A0_4 l0_4.length c0_4]) (t := 26) ?hr ?_; (case hd => rfl); (case hg => rfl); (case hr => first | (go_simp; done) | (go_simp; rfl)); intro gb841 hg w4 hbox hb; have n0_ := Aside0.mk (below_step (by repeat (first | (with_reducible first | exact HB.out | apply below_alloc | apply pw_below_drewN | apply below_drew1) | exact HB.out)) hb); have n1_ := Aside0.mk (hbox); have n2_ := Aside0.mk ((by rw [hg]; exact (below_size (by repeat (first | (with_reducible first | exact HB.out | apply below_alloc | apply pw_below_drewN | apply below_drew1) | exact HB.out))) : w.heap.size ≤ gb841)); have n3_ := Aside0.mk ((by rw [hg]; exact (below_size (by repeat (first | (with_reducible first | exact HB.out | apply below_alloc | apply pw_below_drewN | apply below_drew1) | exact HB.out))) : w.heap.size ≤ gb841)); clear HB; have HB := n0_; have BK841 := n1_; have GW841 := n2_; have GE841 := n3_; clear n0_ n1_ n2_ n3_; clear hb hbox hg; have hcz5_0 : w4.cell? ⟨gb841, 0, none⟩ = some (.int .i64 a0_0) := (blk_cell BK841.out 0).trans rfl; have hcz5_1 : w4.cell? ⟨gb841, 1, none⟩ = some (.int .i64 a0_1) := (blk_cell BK841.out 1).trans rfl; have hcz5_2 : w4.cell? ⟨gb841, 2, none⟩ = some (.int .i64 a0_2) := (blk_cell BK841.out 2).trans rfl; have hcz5_3 : w4.cell? ⟨gb841, 3, none⟩ = some (.int .i64 a0_3) := (blk_cell BK841.out 3).trans rfl; have hcz5_4 : w4.cell? ⟨gb841, 4, none⟩ = some (.slice A0_4 l0_4.length c0_4) := (blk_cell BK841.out 4).trans rfl; have hfz5_0 := blk_frozen BK841.out 0; have hfz5_1 := blk_frozen BK841.out 1; have hfz5_2 := blk_frozen BK841.out 2; have hfz5_3 := blk_frozen BK841.out 3; have hfz5_4 := blk_frozen BK841.out 4) | ((with_reducible refine gate_callee (f := 15) rfl ?_); refine goesL_ (some 16) rfl rfl Try.func15 (by kernel_rfl) rfl #[.agg #[.int .i64 a0_0, .int .i64 a0_1, .int .i64 a0_2, .int .i64 a0_3, .slice A0_4 l0_4.length c0_4], .int .i64 1048576] rfl (by (try simp only [List.map_toArray, List.map_cons, List.map_nil]); first | done | rfl | (simp only [List.length_drop, List.length_take]; rfl)) ?_; (with_reducible refine (laws_szAxis.calls a0_0 a0_1 a0_2 a0_3 _ _ l0_4 1048576 t842 _ ?side1 ?side2 A2.out).mono ?_); (case side1 => repeat (first | exact (Kd.C_below HR0_4.out HB.out) | (with_reducible refine Kd.C_alloc ?_ _) | (with_reducible refine Kd.C_drewN ?_ _) | (with_reducible refine Kd.C_drew ?_))); (case side2 => exact HC0_4.out); rintro e w6 ⟨rfl, hb⟩; refine ⟨_, rfl, ?_⟩; have n0_ := Aside0.mk (blk_below (g := gb841) (o := .cells #[.int .i64 a0_0, .int .i64 a0_1, .int .i64 a0_2, .int .i64 a0_3, .slice A0_4 l0_4.length c0_4] 26 (0, 0)) (by (with_reducible repeat (first | refine blk_drewN ?_ _ | refine blk_drew ?_ | refine blk_alloc ?_ _)); exact BK841.out) hb); have n1_ := Aside0.mk (below_step (by repeat (first | (with_reducible first | exact HB.out | apply below_alloc | apply pw_below_drewN | apply below_drew1 | refine below_set ?_ GE841.out) | exact HB.out)) hb); clear BK841; clear HB; have BK841 := n0_; have HB := n1_; clear n0_ n1_; (try clear hb); (try clear hb2); (try clear hk); (try clear hi)))
  go_ret
  exact ⟨by first | rfl | (simp [errW_none, errW_some] <;> rfl) | (simp [*, errW_none, errW_some] <;> rfl), by repeat (first | (with_reducible first | exact HB.out | apply below_alloc | apply pw_below_drewN | apply below_drew1 | refine below_set ?_ GE841.out) | exact HB.out)⟩
 ·rw [if_neg c3] at H
  have c3b0 : decide (t842 < 0) = false := decide_eq_false c3
  clear c3
  replace H := Option.bind_eq_some_iff.mp H
  obtain ⟨⟨t843, t844, t845, t846, t847⟩, A70, H⟩ := H
  replace H : ((spec_NormalAxis.f k t843 t844 t845 t846 t847).bind fun bt850 => ((laws_toAxis.f k a0_0 a0_1 a0_2 a0_3 l0_4).bind fun bt859 => ((impl_NormalAxis.f k bt859.1 bt859.2.1 bt859.2.2.1 bt859.2.2.2.1 bt859.2.2.2.2).bind fun bt867 => ((laws_eqAxis.f k bt867.1 bt867.2.1 bt867.2.2.1 bt867.2.2.2.1 bt867.2.2.2.2.1 bt850.1 bt850.2.1 bt850.2.2.1 bt850.2.2.2.1 bt850.2.2.2.2.1).bind fun t876 => (if t876 = true then (laws_FnExactNormalAxis.j0 k bt850.2.2.2.2.2 bt867.2.2.2.2.2 (bt867.2.2.2.2.2 != bt850.2.2.2.2.2) a0_0 a0_1 a0_2 a0_3 l0_4 bt850.1 bt850.2.1 bt850.2.2.1 bt850.2.2.2.1 bt850.2.2.2.2.1 bt859.1 bt859.2.1 bt859.2.2.1 bt859.2.2.2.1 bt859.2.2.2.2 bt867.1 bt867.2.1 bt867.2.2.1 bt867.2.2.2.1 bt867.2.2.2.2.1) else (laws_FnExactNormalAxis.j0 k bt850.2.2.2.2.2 bt867.2.2.2.2.2 true a0_0 a0_1 a0_2 a0_3 l0_4 bt850.1 bt850.2.1 bt850.2.2.1 bt850.2.2.2.1 bt850.2.2.2.2.1 bt859.1 bt859.2.1 bt859.2.2.1 bt859.2.2.2.1 bt859.2.2.2.2 bt867.1 bt867.2.1 bt867.2.2.1 bt867.2.2.2.1 bt867.2.2.2.2.1)))))) = some r := H
  have A7 := Aside0.mk A70
  clear A70
  replace H := Option.bind_eq_some_iff.mp H
  obtain ⟨⟨t850, t851, t852, t853, t854, t857⟩, A80, H⟩ := H
  replace H : ((laws_toAxis.f k a0_0 a0_1 a0_2 a0_3 l0_4).bind fun bt859 => ((impl_NormalAxis.f k bt859.1 bt859.2.1 bt859.2.2.1 bt859.2.2.2.1 bt859.2.2.2.2).bind fun bt867 => ((laws_eqAxis.f k bt867.1 bt867.2.1 bt867.2.2.1 bt867.2.2.2.1 bt867.2.2.2.2.1 t850 t851 t852 t853 t854).bind fun t876 => (if t876 = true then (laws_FnExactNormalAxis.j0 k t857 bt867.2.2.2.2.2 (bt867.2.2.2.2.2 != t857) a0_0 a0_1 a0_2 a0_3 l0_4 t850 t851 t852 t853 t854 bt859.1 bt859.2.1 bt859.2.2.1 bt859.2.2.2.1 bt859.2.2.2.2 bt867.1 bt867.2.1 bt867.2.2.1 bt867.2.2.2.1 bt867.2.2.2.2.1) else (laws_FnExactNormalAxis.j0 k t857 bt867.2.2.2.2.2 true a0_0 a0_1 a0_2 a0_3 l0_4 t850 t851 t852 t853 t854 bt859.1 bt859.2.1 bt859.2.2.1 bt859.2.2.2.1 bt859.2.2.2.2 bt867.1 bt867.2.1 bt867.2.2.1 bt867.2.2.2.1 bt867.2.2.2.2.1))))) = some r := H
  have A8 := Aside0.mk A80
  clear A80
  replace H := Option.bind_eq_some_iff.mp H
  obtain ⟨⟨t859, t860, t861, t862, t863⟩, A90, H⟩ := H
  replace H : ((impl_NormalAxis.f k t859 t860 t861 t862 t863).bind fun bt867 => ((laws_eqAxis.f k bt867.1 bt867.2.1 bt867.2.2.1 bt867.2.2.2.1 bt867.2.2.2.2.1 t850 t851 t852 t853 t854).bind fun t876 => (if t876 = true then (laws_FnExactNormalAxis.j0 k t857 bt867.2.2.2.2.2 (bt867.2.2.2.2.2 != t857) a0_0 a0_1 a0_2 a0_3 l0_4 t850 t851 t852 t853 t854 t859 t860 t861 t862 t863 bt867.1 bt867.2.1 bt867.2.2.1 bt867.2.2.2.1 bt867.2.2.2.2.1) else (laws_FnExactNormalAxis.j0 k t857 bt867.2.2.2.2.2 true a0_0 a0_1 a0_2 a0_3 l0_4 t850 t851 t852 t853 t854 t859 t860 t861 t862 t863 bt867.1 bt867.2.1 bt867.2.2.1 bt867.2.2.2.1 bt867.2.2.2.2.1)))) = some r := H
  have A9 := Aside0.mk A90
  clear A90
  replace H := Option.bind_eq_some_iff.mp H
  obtain ⟨⟨t867, t868, t869, t870, t871, t874⟩, A100, H⟩ := H
  replace H : ((laws_eqAxis.f k t867 t868 t869 t870 t871 t850 t851 t852 t853 t854).bind fun t876 => (if t876 = true then (laws_FnExactNormalAxis.j0 k t857 t874 (t874 != t857) a0_0 a0_1 a0_2 a0_3 l0_4 t850 t851 t852 t853 t854 t859 t860 t861 t862 t863 t867 t868 t869 t870 t871) else (laws_FnExactNormalAxis.j0 k t857 t874 true a0_0 a0_1 a0_2 a0_3 l0_4 t850 t851 t852 t853 t854 t859 t860 t861 t862 t863 t867 t868 t869 t870 t871))) = some r := H
  have A10 := Aside0.mk A100
  clear A100
  have HC11 := Aside0.mk H
  clear H
  go_enter Try.func9, Try.ntmps9
  go_upto_region 8 with (first | ((with_reducible refine gate_dst (N := 1) rfl ?_); refine box_event ?hg (N := 1) ?hd (cs := #[.int .i64 a0_0, .int .i64 a0_1, .int .i64 a0_2, .int .i64 a0_3, .slice A0_4 l0_4.length c0_4]) (t := 26) ?hr ?_; (case hd => rfl); (case hg => rfl); (case hr => first | (go_simp; done) | (go_simp; rfl)); intro gb841 hg w12 hbox hb; have n0_ := Aside0.mk (below_step (by repeat (first | (with_reducible first | exact HB.out | apply below_alloc | apply pw_below_drewN | apply below_drew1) | exact HB.out)) hb); have n1_ := Aside0.mk (hbox); have n2_ := Aside0.mk ((by rw [hg]; exact (below_size (by repeat (first | (with_reducible first | exact HB.out | apply below_alloc | apply pw_below_drewN | apply below_drew1) | exact HB.out))) : w.heap.size ≤ gb841)); have n3_ := Aside0.mk ((by rw [hg]; exact (below_size (by repeat (first | (with_reducible first | exact HB.out | apply below_alloc | apply pw_below_drewN | apply below_drew1) | exact HB.out))) : w.heap.size ≤ gb841)); clear HB; have HB := n0_; have BK841 := n1_; have GW841 := n2_; have GE841 := n3_; clear n0_ n1_ n2_ n3_; clear hb hbox hg; have hcz13_0 : w12.cell? ⟨gb841, 0, none⟩ = some (.int .i64 a0_0) := (blk_cell BK841.out 0).trans rfl; have hcz13_1 : w12.cell? ⟨gb841, 1, none⟩ = some (.int .i64 a0_1) := (blk_cell BK841.out 1).trans rfl; have hcz13_2 : w12.cell? ⟨gb841, 2, none⟩ = some (.int .i64 a0_2) := (blk_cell BK841.out 2).trans rfl; have hcz13_3 : w12.cell? ⟨gb841, 3, none⟩ = some (.int .i64 a0_3) := (blk_cell BK841.out 3).trans rfl; have hcz13_4 : w12.cell? ⟨gb841, 4, none⟩ = some (.slice A0_4 l0_4.length c0_4) := (blk_cell BK841.out 4).trans rfl; have hfz13_0 := blk_frozen BK841.out 0; have hfz13_1 := blk_frozen BK841.out 1; have hfz13_2 := blk_frozen BK841.out 2; have hfz13_3 := blk_frozen BK841.out 3; have hfz13_4 := blk_frozen BK841.out 4) | ((with_reducible refine gate_callee (f := 15) rfl ?_); refine goesL_ (some 16) rfl rfl Try.func15 (by kernel_rfl) rfl #[.agg #[.int .i64 a0_0, .int .i64 a0_1, .int .i64 a0_2, .int .i64 a0_3, .slice A0_4 l0_4.length c0_4], .int .i64 1048576] rfl (by (try simp only [List.map_toArray, List.map_cons, List.map_nil]); first | done | rfl | (simp only [List.length_drop, List.length_take]; rfl)) ?_; (with_reducible refine (laws_szAxis.calls a0_0 a0_1 a0_2 a0_3 _ _ l0_4 1048576 t842 _ ?side1 ?side2 A2.out).mono ?_); (case side1 => repeat (first | exact (Kd.C_below HR0_4.out HB.out) | (with_reducible refine Kd.C_alloc ?_ _) | (with_reducible refine Kd.C_drewN ?_ _) | (with_reducible refine Kd.C_drew ?_))); (case side2 => exact HC0_4.out); rintro e w14 ⟨rfl, hb⟩; refine ⟨_, rfl, ?_⟩; have n0_ := Aside0.mk (blk_below (g := gb841) (o := .cells #[.int .i64 a0_0, .int .i64 a0_1, .int .i64 a0_2, .int .i64 a0_3, .slice A0_4 l0_4.length c0_4] 26 (0, 0)) (by (with_reducible repeat (first | refine blk_drewN ?_ _ | refine blk_drew ?_ | refine blk_alloc ?_ _)); exact BK841.out) hb); have n1_ := Aside0.mk (below_step (by repeat (first | (with_reducible first | exact HB.out | apply below_alloc | apply pw_below_drewN | apply below_drew1 | refine below_set ?_ GE841.out) | exact HB.out)) hb); clear BK841; clear HB; have BK841 := n0_; have HB := n1_; clear n0_ n1_; (try clear hb); (try clear hb2); (try clear hk); (try clear hi); have hcz15_0 : w14.cell? ⟨gb841, 0, none⟩ = some (.int .i64 a0_0) := (blk_cell BK841.out 0).trans rfl; have hcz15_1 : w14.cell? ⟨gb841, 1, none⟩ = some (.int .i64 a0_1) := (blk_cell BK841.out 1).trans rfl; have hcz15_2 : w14.cell? ⟨gb841, 2, none⟩ = some (.int .i64 a0_2) := (blk_cell BK841.out 2).trans rfl; have hcz15_3 : w14.cell? ⟨gb841, 3, none⟩ = some (.int .i64 a0_3) := (blk_cell BK841.out 3).trans rfl; have hcz15_4 : w14.cell? ⟨gb841, 4, none⟩ = some (.slice A0_4 l0_4.length c0_4) := (blk_cell BK841.out 4).trans rfl; have hfz15_0 := blk_frozen BK841.out 0; have hfz15_1 := blk_frozen BK841.out 1; have hfz15_2 := blk_frozen BK841.out 2; have hfz15_3 := blk_frozen BK841.out 3; have hfz15_4 := blk_frozen BK841.out 4) | ((with_reducible refine gate_callee (f := 17) rfl ?_); refine goesL_ (some 21) rfl rfl Try.func17 (by kernel_rfl) rfl #[.agg #[.int .i64 a0_0, .int .i64 a0_1, .int .i64 a0_2, .int .i64 a0_3, .slice A0_4 l0_4.length c0_4]] rfl (by (try simp only [List.map_toArray, List.map_cons, List.map_nil]); first | done | rfl | (simp only [List.length_drop, List.length_take]; rfl)) ?_; (with_reducible refine (laws_toAxis.calls k a0_0 a0_1 a0_2 a0_3 _ _ l0_4 t843 t844 t845 t846 t847 _ ?side1 ?side2 A7.out).mono ?_); (case side1 => repeat (first | exact (Kd.C_below HR0_4.out HB.out) | (with_reducible refine Kd.C_alloc ?_ _) | (with_reducible refine Kd.C_drewN ?_ _) | (with_reducible refine Kd.C_drew ?_))); (case side2 => exact HC0_4.out); rintro e w16 ⟨v848, rfl, ho0, hb⟩; refine ⟨_, rfl, ?_⟩; have n0_ := Aside0.mk (Kd.R_lower ho0 (below_size (by repeat (first | (with_reducible first | exact HB.out | apply below_alloc | apply pw_below_drewN | apply below_drew1 | refine below_set ?_ GE841.out) | exact HB.out)))); have n1_ := Aside0.mk (blk_below (g := gb841) (o := .cells #[.int .i64 a0_0, .int .i64 a0_1, .int .i64 a0_2, .int .i64 a0_3, .slice A0_4 l0_4.length c0_4] 26 (0, 0)) (by (with_reducible repeat (first | refine blk_drewN ?_ _ | refine blk_drew ?_ | refine blk_alloc ?_ _)); exact BK841.out) hb); have n2_ := Aside0.mk (below_step (by repeat (first | (with_reducible first | exact HB.out | apply below_alloc | apply pw_below_drewN | apply below_drew1 | refine below_set ?_ GE841.out) | exact HB.out)) hb); clear BK841; clear HB; have HO849 := n0_; have BK841 := n1_; have HB := n2_; clear n0_ n1_ n2_; (try clear hb); (try clear hb2); (try clear hk); (try clear hi); (try clear ho0); obtain ⟨Ao17, co17, eo17⟩ := Kd.R_slice HO849.out; subst eo17) | ((with_reducible refine gate_callee (f := 40) rfl ?_); refine goesL_ (some 22) rfl rfl Try.func40 (by kernel_rfl) rfl #[.agg #[.int .i64 t843, .int .i64 t844, .int .i64 t845, .int .i64 t846, .slice Ao17 t847.length co17]] rfl (by (try simp only [List.map_toArray, List.map_cons, List.map_nil]); first | done | rfl | (simp only [List.length_drop, List.length_take]; rfl)) ?_; (with_reducible refine (spec_NormalAxis.calls k t843 t844 t845 t846 _ _ t847 t850 t851 t852 t853 t854 t857 _ ?side1 ?side2 A8.out).mono ?_); (case side1 => repeat (first | exact (Kd.R_reads' HO849.out).2.2 | (with_reducible refine Kd.C_alloc ?_ _) | (with_reducible refine Kd.C_drewN ?_ _) | (with_reducible refine Kd.C_drew ?_))); (case side2 => exact (Kd.R_reads' HO849.out).2.1); rintro e w18 ⟨v855, rfl, ho0, hb⟩; refine ⟨_, rfl, ?_⟩; have n0_ := Aside0.mk (Kd.R_elder' (by (with_reducible repeat (first | apply Kd.R_alloc | apply Kd.R_drewN | apply Kd.R_drew)); exact HO849.out) (Kd.R_base ho0) hb); have n1_ := Aside0.mk (Kd.R_lower (Kd.R_new' ho0 (Kd.R_lt (by (with_reducible repeat (first | apply Kd.R_alloc | apply Kd.R_drewN | apply Kd.R_drew)); exact HO849.out))) (below_size (by repeat (first | (with_reducible first | exact HB.out | apply below_alloc | apply pw_below_drewN | apply below_drew1 | refine below_set ?_ GE841.out) | exact HB.out)))); have n2_ := Aside0.mk (blk_below (g := gb841) (o := .cells #[.int .i64 a0_0, .int .i64 a0_1, .int .i64 a0_2, .int .i64 a0_3, .slice A0_4 l0_4.length c0_4] 26 (0, 0)) (by (with_reducible repeat (first | refine blk_drewN ?_ _ | refine blk_drew ?_ | refine blk_alloc ?_ _)); exact BK841.out) hb); have n3_ := Aside0.mk (below_step (by repeat (first | (with_reducible first | exact HB.out | apply below_alloc | apply pw_below_drewN | apply below_drew1 | refine below_set ?_ GE841.out) | exact HB.out)) hb); clear HO849; clear BK841; clear HB; have HO849 := n0_; have HO856 := n1_; have BK841 := n2_; have HB := n3_; clear n0_ n1_ n2_ n3_; (try clear hb); (try clear hb2); (try clear hk); (try clear hi); (try clear ho0)) | ((with_reducible refine gate_dst (N := 4) rfl ?_); refine box_event ?hg (N := 4) ?hd (cs := #[.int .i64 0, .int .i64 0, .int .i64 0, .int .i64 0, .slice none 0 0]) (t := 33) ?hr ?_; (case hd => rfl); (case hg => rfl); (case hr => first | (go_simp; done) | (go_simp; rfl)); intro gb858 hg w19 hbox hb; have n0_ := Aside0.mk (Kd.R_below (by (with_reducible repeat (first | apply Kd.R_alloc | apply Kd.R_drewN | apply Kd.R_drew)); exact HO849.out) hb); have n1_ := Aside0.mk (Kd.R_below (by (with_reducible repeat (first | apply Kd.R_alloc | apply Kd.R_drewN | apply Kd.R_drew)); exact HO856.out) hb); have n2_ := Aside0.mk (blk_below (g := gb841) (o := .cells #[.int .i64 a0_0, .int .i64 a0_1, .int .i64 a0_2, .int .i64 a0_3, .slice A0_4 l0_4.length c0_4] 26 (0, 0)) (by (with_reducible repeat (first | refine blk_drewN ?_ _ | refine blk_drew ?_ | refine blk_alloc ?_ _)); exact BK841.out) hb); have n3_ := Aside0.mk (below_step (by repeat (first | (with_reducible first | exact HB.out | apply below_alloc | apply pw_below_drewN | apply below_drew1 | refine below_set ?_ GE841.out) | exact HB.out)) hb); have n4_ := Aside0.mk (hbox); have n5_ := Aside0.mk ((by rw [hg]; exact (below_size (by repeat (first | (with_reducible first | exact HB.out | apply below_alloc | apply pw_below_drewN | apply below_drew1 | refine below_set ?_ GE841.out) | exact HB.out))) : w.heap.size ≤ gb858)); have n6_ := Aside0.mk ((by rw [hg]; exact (below_size (by repeat (first | (with_reducible first | exact HB.out | apply below_alloc | apply pw_below_drewN | apply below_drew1 | refine below_set ?_ GE841.out) | exact HB.out))) : w.heap.size ≤ gb858)); have n7_ := Aside0.mk ((by rw [hg]; exact Nat.ne_of_lt (blk_lt (g := gb841) (o := .cells #[.int .i64 a0_0, .int .i64 a0_1, .int .i64 a0_2, .int .i64 a0_3, .slice A0_4 l0_4.length c0_4] 26 (0, 0)) (by (with_reducible repeat (first | refine blk_drewN ?_ _ | refine blk_drew ?_ | refine blk_alloc ?_ _)); exact BK841.out)) : gb841 ≠ gb858)); have n8_ := Aside0.mk ((by rw [hg]; exact Nat.ne_of_gt (blk_lt (g := gb841) (o := .cells #[.int .i64 a0_0, .int .i64 a0_1, .int .i64 a0_2, .int .i64 a0_3, .slice A0_4 l0_4.length c0_4] 26 (0, 0)) (by (with_reducible repeat (first | refine blk_drewN ?_ _ | refine blk_drew ?_ | refine blk_alloc ?_ _)); exact BK841.out)) : gb858 ≠ gb841)); clear HO849; clear HO856; clear BK841; clear HB; have HO849 := n0_; have HO856 := n1_; have BK841 := n2_; have HB := n3_; have BK858 := n4_; have GW858 := n5_; have GE858 := n6_; have NB841_858 := n7_; have NB858_841 := n8_; clear n0_ n1_ n2_ n3_ n4_ n5_ n6_ n7_ n8_; clear hb hbox hg; have hnb20 := NB858_841.out; have hnc20 := NB841_858.out; have hcz21_0 : w19.cell? ⟨gb858, 0, none⟩ = some (.int .i64 0) := (blk_cell BK858.out 0).trans rfl; have hcz21_1 : w19.cell? ⟨gb858, 1, none⟩ = some (.int .i64 0) := (blk_cell BK858.out 1).trans rfl; have hcz21_2 : w19.cell? ⟨gb858, 2, none⟩ = some (.int .i64 0) := (blk_cell BK858.out 2).trans rfl; have hcz21_3 : w19.cell? ⟨gb858, 3, none⟩ = some (.int .i64 0) := (blk_cell BK858.out 3).trans rfl; have hcz21_4 : w19.cell? ⟨gb858, 4, none⟩ = some (.slice none 0 0) := (blk_cell BK858.out 4).trans rfl; have hfz21_0 := blk_frozen BK858.out 0; have hfz21_1 := blk_frozen BK858.out 1; have hfz21_2 := blk_frozen BK858.out 2; have hfz21_3 := blk_frozen BK858.out 3; have hfz21_4 := blk_frozen BK858.out 4; obtain ⟨Ao22, co22, eo22⟩ := Kd.R_slice HO856.out; subst eo22; have hcz23_0 : w19.cell? ⟨gb841, 0, none⟩ = some (.int .i64 a0_0) := (blk_cell BK841.out 0).trans rfl; have hcz23_1 : w19.cell? ⟨gb841, 1, none⟩ = some (.int .i64 a0_1) := (blk_cell BK841.out 1).trans rfl; have hcz23_2 : w19.cell? ⟨gb841, 2, none⟩ = some (.int .i64 a0_2) := (blk_cell BK841.out 2).trans rfl; have hcz23_3 : w19.cell? ⟨gb841, 3, none⟩ = some (.int .i64 a0_3) := (blk_cell BK841.out 3).trans rfl; have hcz23_4 : w19.cell? ⟨gb841, 4, none⟩ = some (.slice A0_4 l0_4.length c0_4) := (blk_cell BK841.out 4).trans rfl; have hfz23_0 := blk_frozen BK841.out 0; have hfz23_1 := blk_frozen BK841.out 1; have hfz23_2 := blk_frozen BK841.out 2; have hfz23_3 := blk_frozen BK841.out 3; have hfz23_4 := blk_frozen BK841.out 4) | ((with_reducible refine gate_callee (f := 17) rfl ?_); refine goesL_ (some 26) rfl rfl Try.func17 (by kernel_rfl) rfl #[.agg #[.int .i64 a0_0, .int .i64 a0_1, .int .i64 a0_2, .int .i64 a0_3, .slice A0_4 l0_4.length c0_4]] rfl (by (try simp only [List.map_toArray, List.map_cons, List.map_nil]); first | done | rfl | (simp only [List.length_drop, List.length_take]; rfl)) ?_; (with_reducible refine (laws_toAxis.calls k a0_0 a0_1 a0_2 a0_3 _ _ l0_4 t859 t860 t861 t862 t863 _ ?side1 ?side2 A9.out).mono ?_); (case side1 => exact Kd.C_below HR0_4.out (by repeat (first | (with_reducible first | exact HB.out | apply below_alloc | apply pw_below_drewN | apply below_drew1 | refine below_set ?_ GE841.out | refine below_set ?_ GE858.out) | exact HB.out))); (case side2 => exact HC0_4.out); rintro e w24 ⟨v864, rfl, ho0, hb⟩; refine ⟨_, rfl, ?_⟩; have n0_ := Aside0.mk (Kd.R_elder' (by (with_reducible repeat (first | apply Kd.R_alloc | apply Kd.R_drewN | apply Kd.R_drew)); exact (Kd.R_mono (Kd.R_far (p := ⟨gb858, 4, none⟩) (Kd.R_far (p := ⟨gb858, 3, none⟩) (Kd.R_far (p := ⟨gb858, 2, none⟩) (Kd.R_far (p := ⟨gb858, 1, none⟩) (Kd.R_far (p := ⟨gb858, 0, none⟩) (Kd.R_types HO849.out BK858.out (by decide)) (fun _ hk => hk.2) (.int .i64 t850)) (fun _ hk => hk.2) (.int .i64 t851)) (fun _ hk => hk.2) (.int .i64 t852)) (fun _ hk => hk.2) (.int .i64 t853)) (fun _ hk => hk.2) (.slice Ao22 t854.length co22)) (fun _ h_ => h_.1))) (Kd.R_base ho0) hb); have n1_ := Aside0.mk (Kd.R_elder' (by (with_reducible repeat (first | apply Kd.R_alloc | apply Kd.R_drewN | apply Kd.R_drew)); exact (Kd.R_mono (Kd.R_far (p := ⟨gb858, 4, none⟩) (Kd.R_far (p := ⟨gb858, 3, none⟩) (Kd.R_far (p := ⟨gb858, 2, none⟩) (Kd.R_far (p := ⟨gb858, 1, none⟩) (Kd.R_far (p := ⟨gb858, 0, none⟩) (Kd.R_types HO856.out BK858.out (by decide)) (fun _ hk => hk.2) (.int .i64 t850)) (fun _ hk => hk.2) (.int .i64 t851)) (fun _ hk => hk.2) (.int .i64 t852)) (fun _ hk => hk.2) (.int .i64 t853)) (fun _ hk => hk.2) (.slice Ao22 t854.length co22)) (fun _ h_ => h_.1))) (Kd.R_base ho0) hb); have n2_ := Aside0.mk (Kd.R_lower (Kd.R_new' (Kd.R_new' ho0 (Kd.R_lt (by (with_reducible repeat (first | apply Kd.R_alloc | apply Kd.R_drewN | apply Kd.R_drew)); exact (Kd.R_mono (Kd.R_far (p := ⟨gb858, 4, none⟩) (Kd.R_far (p := ⟨gb858, 3, none⟩) (Kd.R_far (p := ⟨gb858, 2, none⟩) (Kd.R_far (p := ⟨gb858, 1, none⟩) (Kd.R_far (p := ⟨gb858, 0, none⟩) (Kd.R_types HO849.out BK858.out (by decide)) (fun _ hk => hk.2) (.int .i64 t850)) (fun _ hk => hk.2) (.int .i64 t851)) (fun _ hk => hk.2) (.int .i64 t852)) (fun _ hk => hk.2) (.int .i64 t853)) (fun _ hk => hk.2) (.slice Ao22 t854.length co22)) (fun _ h_ => h_.1))))) (Kd.R_lt (by (with_reducible repeat (first | apply Kd.R_alloc | apply Kd.R_drewN | apply Kd.R_drew)); exact (Kd.R_mono (Kd.R_far (p := ⟨gb858, 4, none⟩) (Kd.R_far (p := ⟨gb858, 3, none⟩) (Kd.R_far (p := ⟨gb858, 2, none⟩) (Kd.R_far (p := ⟨gb858, 1, none⟩) (Kd.R_far (p := ⟨gb858, 0, none⟩) (Kd.R_types HO856.out BK858.out (by decide)) (fun _ hk => hk.2) (.int .i64 t850)) (fun _ hk => hk.2) (.int .i64 t851)) (fun _ hk => hk.2) (.int .i64 t852)) (fun _ hk => hk.2) (.int .i64 t853)) (fun _ hk => hk.2) (.slice Ao22 t854.length co22)) (fun _ h_ => h_.1))))) (below_size (by repeat (first | (with_reducible first | exact HB.out | apply below_alloc | apply pw_below_drewN | apply below_drew1 | refine below_set ?_ GE841.out | refine below_set ?_ GE858.out) | exact HB.out)))); have n3_ := Aside0.mk (blk_below (g := gb841) (o := .cells #[.int .i64 a0_0, .int .i64 a0_1, .int .i64 a0_2, .int .i64 a0_3, .slice A0_4 l0_4.length c0_4] 26 (0, 0)) (by (with_reducible repeat (first | refine blk_drewN ?_ _ | refine blk_drew ?_ | refine blk_alloc ?_ _)); refine blk_far ?_ NB841_858.out _; (with_reducible repeat (first | refine blk_drewN ?_ _ | refine blk_drew ?_ | refine blk_alloc ?_ _)); refine blk_far ?_ NB841_858.out _; (with_reducible repeat (first | refine blk_drewN ?_ _ | refine blk_drew ?_ | refine blk_alloc ?_ _)); refine blk_far ?_ NB841_858.out _; (with_reducible repeat (first | refine blk_drewN ?_ _ | refine blk_drew ?_ | refine blk_alloc ?_ _)); refine blk_far ?_ NB841_858.out _; (with_reducible repeat (first | refine blk_drewN ?_ _ | refine blk_drew ?_ | refine blk_alloc ?_ _)); refine blk_far ?_ NB841_858.out _; (with_reducible repeat (first | refine blk_drewN ?_ _ | refine blk_drew ?_ | refine blk_alloc ?_ _)); exact BK841.out) hb); have n4_ := Aside0.mk (blk_below (g := gb858) (o := .cells #[.int .i64 t850, .int .i64 t851, .int .i64 t852, .int .i64 t853, .slice Ao22 t854.length co22] 33 (0, 0)) (by (with_reducible repeat (first | refine blk_drewN ?_ _ | refine blk_drew ?_ | refine blk_alloc ?_ _)); refine blk_put (cs := #[.int .i64 t850, .int .i64 t851, .int .i64 t852, .int .i64 t853, .slice none 0 0]) ?_ 4 _ rfl; (with_reducible repeat (first | refine blk_drewN ?_ _ | refine blk_drew ?_ | refine blk_alloc ?_ _)); refine blk_put (cs := #[.int .i64 t850, .int .i64 t851, .int .i64 t852, .int .i64 0, .slice none 0 0]) ?_ 3 _ rfl; (with_reducible repeat (first | refine blk_drewN ?_ _ | refine blk_drew ?_ | refine blk_alloc ?_ _)); refine blk_put (cs := #[.int .i64 t850, .int .i64 t851, .int .i64 0, .int .i64 0, .slice none 0 0]) ?_ 2 _ rfl; (with_reducible repeat (first | refine blk_drewN ?_ _ | refine blk_drew ?_ | refine blk_alloc ?_ _)); refine blk_put (cs := #[.int .i64 t850, .int .i64 0, .int .i64 0, .int .i64 0, .slice none 0 0]) ?_ 1 _ rfl; (with_reducible repeat (first | refine blk_drewN ?_ _ | refine blk_drew ?_ | refine blk_alloc ?_ _)); refine blk_put (cs := #[.int .i64 0, .int .i64 0, .int .i64 0, .int .i64 0, .slice none 0 0]) ?_ 0 _ rfl; (with_reducible repeat (first | refine blk_drewN ?_ _ | refine blk_drew ?_ | refine blk_alloc ?_ _)); exact BK858.out) hb); have n5_ := Aside0.mk (below_step (by repeat (first | (with_reducible first | exact HB.out | apply below_alloc | apply pw_below_drewN | apply below_drew1 | refine below_set ?_ GE841.out | refine below_set ?_ GE858.out) | exact HB.out)) hb); clear HO849; clear HO856; clear BK841; clear BK858; clear HB; have HO849 := n0_; have HO856 := n1_; have HO865 := n2_; have BK841 := n3_; have BK858 := n4_; have HB := n5_; clear n0_ n1_ n2_ n3_ n4_ n5_; (try clear hb); (try clear hb2); (try clear hk); (try clear hi); (try clear ho0)) | ((with_reducible refine gate_dst (N := 6) rfl ?_); refine box_event ?hg (N := 6) ?hd (cs := #[.int .i64 0, .int .i64 0, .int .i64 0, .int .i64 0, .slice none 0 0]) (t := 33) ?hr ?_; (case hd => rfl); (case hg => rfl); (case hr => first | (go_simp; done) | (go_simp; rfl)); intro gb866 hg w25 hbox hb; have n0_ := Aside0.mk (Kd.R_below (by (with_reducible repeat (first | apply Kd.R_alloc | apply Kd.R_drewN | apply Kd.R_drew)); exact HO849.out) hb); have n1_ := Aside0.mk (Kd.R_below (by (with_reducible repeat (first | apply Kd.R_alloc | apply Kd.R_drewN | apply Kd.R_drew)); exact HO856.out) hb); have n2_ := Aside0.mk (Kd.R_below (by (with_reducible repeat (first | apply Kd.R_alloc | apply Kd.R_drewN | apply Kd.R_drew)); exact HO865.out) hb); have n3_ := Aside0.mk (blk_below (g := gb841) (o := .cells #[.int .i64 a0_0, .int .i64 a0_1, .int .i64 a0_2, .int .i64 a0_3, .slice A0_4 l0_4.length c0_4] 26 (0, 0)) (by (with_reducible repeat (first | refine blk_drewN ?_ _ | refine blk_drew ?_ | refine blk_alloc ?_ _)); exact BK841.out) hb); have n4_ := Aside0.mk (blk_below (g := gb858) (o := .cells #[.int .i64 t850, .int .i64 t851, .int .i64 t852, .int .i64 t853, .slice Ao22 t854.length co22] 33 (0, 0)) (by (with_reducible repeat (first | refine blk_drewN ?_ _ | refine blk_drew ?_ | refine blk_alloc ?_ _)); exact BK858.out) hb); have n5_ := Aside0.mk (below_step (by repeat (first | (with_reducible first | exact HB.out | apply below_alloc | apply pw_below_drewN | apply below_drew1 | refine below_set ?_ GE841.out | refine below_set ?_ GE858.out) | exact HB.out)) hb); have n6_ := Aside0.mk (hbox); have n7_ := Aside0.mk ((by rw [hg]; exact (below_size (by repeat (first | (with_reducible first | exact HB.out | apply below_alloc | apply pw_below_drewN | apply below_drew1 | refine below_set ?_ GE841.out | refine below_set ?_ GE858.out) | exact HB.out))) : w.heap.size ≤ gb866)); have n8_ := Aside0.mk ((by rw [hg]; exact (below_size (by repeat (first | (with_reducible first | exact HB.out | apply below_alloc | apply pw_below_drewN | apply below_drew1 | refine below_set ?_ GE841.out | refine below_set ?_ GE858.out) | exact HB.out))) : w.heap.size ≤ gb866)); have n9_ := Aside0.mk ((by rw [hg]; exact Nat.ne_of_lt (blk_lt (g := gb841) (o := .cells #[.int .i64 a0_0, .int .i64 a0_1, .int .i64 a0_2, .int .i64 a0_3, .slice A0_4 l0_4.length c0_4] 26 (0, 0)) (by (with_reducible repeat (first | refine blk_drewN ?_ _ | refine blk_drew ?_ | refine blk_alloc ?_ _)); exact BK841.out)) : gb841 ≠ gb866)); have n10_ := Aside0.mk ((by rw [hg]; exact Nat.ne_of_gt (blk_lt (g := gb841) (o := .cells #[.int .i64 a0_0, .int .i64 a0_1, .int .i64 a0_2, .int .i64 a0_3, .slice A0_4 l0_4.length c0_4] 26 (0, 0)) (by (with_reducible repeat (first | refine blk_drewN ?_ _ | refine blk_drew ?_ | refine blk_alloc ?_ _)); exact BK841.out)) : gb866 ≠ gb841)); have n11_ := Aside0.mk ((by rw [hg]; exact Nat.ne_of_lt (blk_lt (g := gb858) (o := .cells #[.int .i64 t850, .int .i64 t851, .int .i64 t852, .int .i64 t853, .slice Ao22 t854.length co22] 33 (0, 0)) (by (with_reducible repeat (first | refine blk_drewN ?_ _ | refine blk_drew ?_ | refine blk_alloc ?_ _)); exact BK858.out)) : gb858 ≠ gb866)); have n12_ := Aside0.mk ((by rw [hg]; exact Nat.ne_of_gt (blk_lt (g := gb858) (o := .cells #[.int .i64 t850, .int .i64 t851, .int .i64 t852, .int .i64 t853, .slice Ao22 t854.length co22] 33 (0, 0)) (by (with_reducible repeat (first | refine blk_drewN ?_ _ | refine blk_drew ?_ | refine blk_alloc ?_ _)); exact BK858.out)) : gb866 ≠ gb858)); clear HO849; clear HO856; clear HO865; clear BK841; clear BK858; clear HB; have HO849 := n0_; have HO856 := n1_; have HO865 := n2_; have BK841 := n3_; have BK858 := n4_; have HB := n5_; have BK866 := n6_; have GW866 := n7_; have GE866 := n8_; have NB841_866 := n9_; have NB866_841 := n10_; have NB858_866 := n11_; have NB866_858 := n12_; clear n0_ n1_ n2_ n3_ n4_ n5_ n6_ n7_ n8_ n9_ n10_ n11_ n12_; clear hb hbox hg; have hnb26 := NB866_841.out; have hnc26 := NB841_866.out; have hnb27 := NB866_858.out; have hnc27 := NB858_866.out; have hcz28_0 : w25.cell? ⟨gb866, 0, none⟩ = some (.int .i64 0) := (blk_cell BK866.out 0).trans rfl; have hcz28_1 : w25.cell? ⟨gb866, 1, none⟩ = some (.int .i64 0) := (blk_cell BK866.out 1).trans rfl; have hcz28_2 : w25.cell? ⟨gb866, 2, none⟩ = some (.int .i64 0) := (blk_cell BK866.out 2).trans rfl; have hcz28_3 : w25.cell? ⟨gb866, 3, none⟩ = some (.int .i64 0) := (blk_cell BK866.out 3).trans rfl; have hcz28_4 : w25.cell? ⟨gb866, 4, none⟩ = some (.slice none 0 0) := (blk_cell BK866.out 4).trans rfl; have hfz28_0 := blk_frozen BK866.out 0; have hfz28_1 := blk_frozen BK866.out 1; have hfz28_2 := blk_frozen BK866.out 2; have hfz28_3 := blk_frozen BK866.out 3; have hfz28_4 := blk_frozen BK866.out 4; obtain ⟨Ao29, co29, eo29⟩ := Kd.R_slice HO865.out; subst eo29) | ((with_reducible refine gate_callee (f := 41) rfl ?_); refine goesL_ (some 29) rfl rfl Try.func41 (by kernel_rfl) rfl #[.agg #[.int .i64 t859, .int .i64 t860, .int .i64 t861, .int .i64 t862, .slice Ao29 t863.length co29]] rfl (by (try simp only [List.map_toArray, List.map_cons, List.map_nil]); first | done | rfl | (simp only [List.length_drop, List.length_take]; rfl)) ?_; (with_reducible refine (impl_NormalAxis.calls k t859 t860 t861 t862 _ _ t863 t867 t868 t869 t870 t871 t874 _ ?side1 ?side2 A10.out).mono ?_); (case side1 => refine (Kd.R_reads' (e := 69) (base := w.heap.size) (ok := fun k_ => ((True ∧ some k_ ≠ (.slice Ao17 t847.length co17 : Value).ownBlock) ∧ some k_ ≠ (.slice Ao22 t854.length co22 : Value).ownBlock)) (n := t863.length) (c := co29) ?_).2.2; exact (by (with_reducible repeat (first | apply Kd.R_alloc | apply Kd.R_drewN | apply Kd.R_drew)); exact (Kd.R_mono (Kd.R_far (p := ⟨gb866, 4, none⟩) (Kd.R_far (p := ⟨gb866, 3, none⟩) (Kd.R_far (p := ⟨gb866, 2, none⟩) (Kd.R_far (p := ⟨gb866, 1, none⟩) (Kd.R_far (p := ⟨gb866, 0, none⟩) (Kd.R_types HO865.out BK866.out (by decide)) (fun _ hk => hk.2) (.int .i64 t859)) (fun _ hk => hk.2) (.int .i64 t860)) (fun _ hk => hk.2) (.int .i64 t861)) (fun _ hk => hk.2) (.int .i64 t862)) (fun _ hk => hk.2) (.slice Ao29 t863.length co29)) (fun _ h_ => h_.1)))); (case side2 => exact (Kd.R_reads' HO865.out).2.1); rintro e w30 ⟨v872, rfl, ho0, hb⟩; refine ⟨_, rfl, ?_⟩; have n0_ := Aside0.mk (Kd.R_elder' (by (with_reducible repeat (first | apply Kd.R_alloc | apply Kd.R_drewN | apply Kd.R_drew)); exact (Kd.R_mono (Kd.R_far (p := ⟨gb866, 4, none⟩) (Kd.R_far (p := ⟨gb866, 3, none⟩) (Kd.R_far (p := ⟨gb866, 2, none⟩) (Kd.R_far (p := ⟨gb866, 1, none⟩) (Kd.R_far (p := ⟨gb866, 0, none⟩) (Kd.R_types HO849.out BK866.out (by decide)) (fun _ hk => hk.2) (.int .i64 t859)) (fun _ hk => hk.2) (.int .i64 t860)) (fun _ hk => hk.2) (.int .i64 t861)) (fun _ hk => hk.2) (.int .i64 t862)) (fun _ hk => hk.2) (.slice Ao29 t863.length co29)) (fun _ h_ => h_.1))) (Kd.R_base ho0) hb); have n1_ := Aside0.mk (Kd.R_elder' (by (with_reducible repeat (first | apply Kd.R_alloc | apply Kd.R_drewN | apply Kd.R_drew)); exact (Kd.R_mono (Kd.R_far (p := ⟨gb866, 4, none⟩) (Kd.R_far (p := ⟨gb866, 3, none⟩) (Kd.R_far (p := ⟨gb866, 2, none⟩) (Kd.R_far (p := ⟨gb866, 1, none⟩) (Kd.R_far (p := ⟨gb866, 0, none⟩) (Kd.R_types HO856.out BK866.out (by decide)) (fun _ hk => hk.2) (.int .i64 t859)) (fun _ hk => hk.2) (.int .i64 t860)) (fun _ hk => hk.2) (.int .i64 t861)) (fun _ hk => hk.2) (.int .i64 t862)) (fun _ hk => hk.2) (.slice Ao29 t863.length co29)) (fun _ h_ => h_.1))) (Kd.R_base ho0) hb); have n2_ := Aside0.mk (Kd.R_elder' (by (with_reducible repeat (first | apply Kd.R_alloc | apply Kd.R_drewN | apply Kd.R_drew)); exact (Kd.R_mono (Kd.R_far (p := ⟨gb866, 4, none⟩) (Kd.R_far (p := ⟨gb866, 3, none⟩) (Kd.R_far (p := ⟨gb866, 2, none⟩) (Kd.R_far (p := ⟨gb866, 1, none⟩) (Kd.R_far (p := ⟨gb866, 0, none⟩) (Kd.R_types HO865.out BK866.out (by decide)) (fun _ hk => hk.2) (.int .i64 t859)) (fun _ hk => hk.2) (.int .i64 t860)) (fun _ hk => hk.2) (.int .i64 t861)) (fun _ hk => hk.2) (.int .i64 t862)) (fun _ hk => hk.2) (.slice Ao29 t863.length co29)) (fun _ h_ => h_.1))) (Kd.R_base ho0) hb); have n3_ := Aside0.mk (Kd.R_lower (Kd.R_new' (Kd.R_new' (Kd.R_new' ho0 (Kd.R_lt (by (with_reducible repeat (first | apply Kd.R_alloc | apply Kd.R_drewN | apply Kd.R_drew)); exact (Kd.R_mono (Kd.R_far (p := ⟨gb866, 4, none⟩) (Kd.R_far (p := ⟨gb866, 3, none⟩) (Kd.R_far (p := ⟨gb866, 2, none⟩) (Kd.R_far (p := ⟨gb866, 1, none⟩) (Kd.R_far (p := ⟨gb866, 0, none⟩) (Kd.R_types HO849.out BK866.out (by decide)) (fun _ hk => hk.2) (.int .i64 t859)) (fun _ hk => hk.2) (.int .i64 t860)) (fun _ hk => hk.2) (.int .i64 t861)) (fun _ hk => hk.2) (.int .i64 t862)) (fun _ hk => hk.2) (.slice Ao29 t863.length co29)) (fun _ h_ => h_.1))))) (Kd.R_lt (by (with_reducible repeat (first | apply Kd.R_alloc | apply Kd.R_drewN | apply Kd.R_drew)); exact (Kd.R_mono (Kd.R_far (p := ⟨gb866, 4, none⟩) (Kd.R_far (p := ⟨gb866, 3, none⟩) (Kd.R_far (p := ⟨gb866, 2, none⟩) (Kd.R_far (p := ⟨gb866, 1, none⟩) (Kd.R_far (p := ⟨gb866, 0, none⟩) (Kd.R_types HO856.out BK866.out (by decide)) (fun _ hk => hk.2) (.int .i64 t859)) (fun _ hk => hk.2) (.int .i64 t860)) (fun _ hk => hk.2) (.int .i64 t861)) (fun _ hk => hk.2) (.int .i64 t862)) (fun _ hk => hk.2) (.slice Ao29 t863.length co29)) (fun _ h_ => h_.1))))) (Kd.R_lt (by (with_reducible repeat (first | apply Kd.R_alloc | apply Kd.R_drewN | apply Kd.R_drew)); exact (Kd.R_mono (Kd.R_far (p := ⟨gb866, 4, none⟩) (Kd.R_far (p := ⟨gb866, 3, none⟩) (Kd.R_far (p := ⟨gb866, 2, none⟩) (Kd.R_far (p := ⟨gb866, 1, none⟩) (Kd.R_far (p := ⟨gb866, 0, none⟩) (Kd.R_types HO865.out BK866.out (by decide)) (fun _ hk => hk.2) (.int .i64 t859)) (fun _ hk => hk.2) (.int .i64 t860)) (fun _ hk => hk.2) (.int .i64 t861)) (fun _ hk => hk.2) (.int .i64 t862)) (fun _ hk => hk.2) (.slice Ao29 t863.length co29)) (fun _ h_ => h_.1))))) (below_size (by repeat (first | (with_reducible first | exact HB.out | apply below_alloc | apply pw_below_drewN | apply below_drew1 | refine below_set ?_ GE841.out | refine below_set ?_ GE858.out | refine below_set ?_ GE866.out) | exact HB.out)))); have n4_ := Aside0.mk (blk_below (g := gb841) (o := .cells #[.int .i64 a0_0, .int .i64 a0_1, .int .i64 a0_2, .int .i64 a0_3, .slice A0_4 l0_4.length c0_4] 26 (0, 0)) (by (with_reducible repeat (first | refine blk_drewN ?_ _ | refine blk_drew ?_ | refine blk_alloc ?_ _)); refine blk_far ?_ NB841_866.out _; (with_reducible repeat (first | refine blk_drewN ?_ _ | refine blk_drew ?_ | refine blk_alloc ?_ _)); refine blk_far ?_ NB841_866.out _; (with_reducible repeat (first | refine blk_drewN ?_ _ | refine blk_drew ?_ | refine blk_alloc ?_ _)); refine blk_far ?_ NB841_866.out _; (with_reducible repeat (first | refine blk_drewN ?_ _ | refine blk_drew ?_ | refine blk_alloc ?_ _)); refine blk_far ?_ NB841_866.out _; (with_reducible repeat (first | refine blk_drewN ?_ _ | refine blk_drew ?_ | refine blk_alloc ?_ _)); refine blk_far ?_ NB841_866.out _; (with_reducible repeat (first | refine blk_drewN ?_ _ | refine blk_drew ?_ | refine blk_alloc ?_ _)); exact BK841.out) hb); have n5_ := Aside0.mk (blk_below (g := gb858) (o := .cells #[.int .i64 t850, .int .i64 t851, .int .i64 t852, .int .i64 t853, .slice Ao22 t854.length co22] 33 (0, 0)) (by (with_reducible repeat (first | refine blk_drewN ?_ _ | refine blk_drew ?_ | refine blk_alloc ?_ _)); refine blk_far ?_ NB858_866.out _; (with_reducible repeat (first | refine blk_drewN ?_ _ | refine blk_drew ?_ | refine blk_alloc ?_ _)); refine blk_far ?_ NB858_866.out _; (with_reducible repeat (first | refine blk_drewN ?_ _ | refine blk_drew ?_ | refine blk_alloc ?_ _)); refine blk_far ?_ NB858_866.out _; (with_reducible repeat (first | refine blk_drewN ?_ _ | refine blk_drew ?_ | refine blk_alloc ?_ _)); refine blk_far ?_ NB858_866.out _; (with_reducible repeat (first | refine blk_drewN ?_ _ | refine blk_drew ?_ | refine blk_alloc ?_ _)); refine blk_far ?_ NB858_866.out _; (with_reducible repeat (first | refine blk_drewN ?_ _ | refine blk_drew ?_ | refine blk_alloc ?_ _)); exact BK858.out) hb); have n6_ := Aside0.mk (blk_below (g := gb866) (o := .cells #[.int .i64 t859, .int .i64 t860, .int .i64 t861, .int .i64 t862, .slice Ao29 t863.length co29] 33 (0, 0)) (by (with_reducible repeat (first | refine blk_drewN ?_ _ | refine blk_drew ?_ | refine blk_alloc ?_ _)); refine blk_put (cs := #[.int .i64 t859, .int .i64 t860, .int .i64 t861, .int .i64 t862, .slice none 0 0]) ?_ 4 _ rfl; (with_reducible repeat (first | refine blk_drewN ?_ _ | refine blk_drew ?_ | refine blk_alloc ?_ _)); refine blk_put (cs := #[.int .i64 t859, .int .i64 t860, .int .i64 t861, .int .i64 0, .slice none 0 0]) ?_ 3 _ rfl; (with_reducible repeat (first | refine blk_drewN ?_ _ | refine blk_drew ?_ | refine blk_alloc ?_ _)); refine blk_put (cs := #[.int .i64 t859, .int .i64 t860, .int .i64 0, .int .i64 0, .slice none 0 0]) ?_ 2 _ rfl; (with_reducible repeat (first | refine blk_drewN ?_ _ | refine blk_drew ?_ | refine blk_alloc ?_ _)); refine blk_put (cs := #[.int .i64 t859, .int .i64 0, .int .i64 0, .int .i64 0, .slice none 0 0]) ?_ 1 _ rfl; (with_reducible repeat (first | refine blk_drewN ?_ _ | refine blk_drew ?_ | refine blk_alloc ?_ _)); refine blk_put (cs := #[.int .i64 0, .int .i64 0, .int .i64 0, .int .i64 0, .slice none 0 0]) ?_ 0 _ rfl; (with_reducible repeat (first | refine blk_drewN ?_ _ | refine blk_drew ?_ | refine blk_alloc ?_ _)); exact BK866.out) hb); have n7_ := Aside0.mk (below_step (by repeat (first | (with_reducible first | exact HB.out | apply below_alloc | apply pw_below_drewN | apply below_drew1 | refine below_set ?_ GE841.out | refine below_set ?_ GE858.out | refine below_set ?_ GE866.out) | exact HB.out)) hb); clear HO849; clear HO856; clear HO865; clear BK841; clear BK858; clear BK866; clear HB; have HO849 := n0_; have HO856 := n1_; have HO865 := n2_; have HO873 := n3_; have BK841 := n4_; have BK858 := n5_; have BK866 := n6_; have HB := n7_; clear n0_ n1_ n2_ n3_ n4_ n5_ n6_ n7_; (try clear hb); (try clear hb2); (try clear hk); (try clear hi); (try clear ho0)) | ((with_reducible refine gate_dst (N := 7) rfl ?_); refine box_event ?hg (N := 7) ?hd (cs := #[.int .i64 0, .int .i64 0, .int .i64 0, .int .i64 0, .slice none 0 0]) (t := 33) ?hr ?_; (case hd => rfl); (case hg => rfl); (case hr => first | (go_simp; done) | (go_simp; rfl)); intro gb875 hg w31 hbox hb; have n0_ := Aside0.mk (Kd.R_below (by (with_reducible repeat (first | apply Kd.R_alloc | apply Kd.R_drewN | apply Kd.R_drew)); exact HO849.out) hb); have n1_ := Aside0.mk (Kd.R_below (by (with_reducible repeat (first | apply Kd.R_alloc | apply Kd.R_drewN | apply Kd.R_drew)); exact HO856.out) hb); have n2_ := Aside0.mk (Kd.R_below (by (with_reducible repeat (first | apply Kd.R_alloc | apply Kd.R_drewN | apply Kd.R_drew)); exact HO865.out) hb); have n3_ := Aside0.mk (Kd.R_below (by (with_reducible repeat (first | apply Kd.R_alloc | apply Kd.R_drewN | apply Kd.R_drew)); exact HO873.out) hb); have n4_ := Aside0.mk (blk_below (g := gb841) (o := .cells #[.int .i64 a0_0, .int .i64 a0_1, .int .i64 a0_2, .int .i64 a0_3, .slice A0_4 l0_4.length c0_4] 26 (0, 0)) (by (with_reducible repeat (first | refine blk_drewN ?_ _ | refine blk_drew ?_ | refine blk_alloc ?_ _)); exact BK841.out) hb); have n5_ := Aside0.mk (blk_below (g := gb858) (o := .cells #[.int .i64 t850, .int .i64 t851, .int .i64 t852, .int .i64 t853, .slice Ao22 t854.length co22] 33 (0, 0)) (by (with_reducible repeat (first | refine blk_drewN ?_ _ | refine blk_drew ?_ | refine blk_alloc ?_ _)); exact BK858.out) hb); have n6_ := Aside0.mk (blk_below (g := gb866) (o := .cells #[.int .i64 t859, .int .i64 t860, .int .i64 t861, .int .i64 t862, .slice Ao29 t863.length co29] 33 (0, 0)) (by (with_reducible repeat (first | refine blk_drewN ?_ _ | refine blk_drew ?_ | refine blk_alloc ?_ _)); exact BK866.out) hb); have n7_ := Aside0.mk (below_step (by repeat (first | (with_reducible first | exact HB.out | apply below_alloc | apply pw_below_drewN | apply below_drew1 | refine below_set ?_ GE841.out | refine below_set ?_ GE858.out | refine below_set ?_ GE866.out) | exact HB.out)) hb); have n8_ := Aside0.mk (hbox); have n9_ := Aside0.mk ((by rw [hg]; exact (below_size (by repeat (first | (with_reducible first | exact HB.out | apply below_alloc | apply pw_below_drewN | apply below_drew1 | refine below_set ?_ GE841.out | refine below_set ?_ GE858.out | refine below_set ?_ GE866.out) | exact HB.out))) : w.heap.size ≤ gb875)); have n10_ := Aside0.mk ((by rw [hg]; exact (below_size (by repeat (first | (with_reducible first | exact HB.out | apply below_alloc | apply pw_below_drewN | apply below_drew1 | refine below_set ?_ GE841.out | refine below_set ?_ GE858.out | refine below_set ?_ GE866.out) | exact HB.out))) : w.heap.size ≤ gb875)); have n11_ := Aside0.mk ((by rw [hg]; exact Nat.ne_of_lt (blk_lt (g := gb841) (o := .cells #[.int .i64 a0_0, .int .i64 a0_1, .int .i64 a0_2, .int .i64 a0_3, .slice A0_4 l0_4.length c0_4] 26 (0, 0)) (by (with_reducible repeat (first | refine blk_drewN ?_ _ | refine blk_drew ?_ | refine blk_alloc ?_ _)); exact BK841.out)) : gb841 ≠ gb875)); have n12_ := Aside0.mk ((by rw [hg]; exact Nat.ne_of_gt (blk_lt (g := gb841) (o := .cells #[.int .i64 a0_0, .int .i64 a0_1, .int .i64 a0_2, .int .i64 a0_3, .slice A0_4 l0_4.length c0_4] 26 (0, 0)) (by (with_reducible repeat (first | refine blk_drewN ?_ _ | refine blk_drew ?_ | refine blk_alloc ?_ _)); exact BK841.out)) : gb875 ≠ gb841)); have n13_ := Aside0.mk ((by rw [hg]; exact Nat.ne_of_lt (blk_lt (g := gb858) (o := .cells #[.int .i64 t850, .int .i64 t851, .int .i64 t852, .int .i64 t853, .slice Ao22 t854.length co22] 33 (0, 0)) (by (with_reducible repeat (first | refine blk_drewN ?_ _ | refine blk_drew ?_ | refine blk_alloc ?_ _)); exact BK858.out)) : gb858 ≠ gb875)); have n14_ := Aside0.mk ((by rw [hg]; exact Nat.ne_of_gt (blk_lt (g := gb858) (o := .cells #[.int .i64 t850, .int .i64 t851, .int .i64 t852, .int .i64 t853, .slice Ao22 t854.length co22] 33 (0, 0)) (by (with_reducible repeat (first | refine blk_drewN ?_ _ | refine blk_drew ?_ | refine blk_alloc ?_ _)); exact BK858.out)) : gb875 ≠ gb858)); have n15_ := Aside0.mk ((by rw [hg]; exact Nat.ne_of_lt (blk_lt (g := gb866) (o := .cells #[.int .i64 t859, .int .i64 t860, .int .i64 t861, .int .i64 t862, .slice Ao29 t863.length co29] 33 (0, 0)) (by (with_reducible repeat (first | refine blk_drewN ?_ _ | refine blk_drew ?_ | refine blk_alloc ?_ _)); exact BK866.out)) : gb866 ≠ gb875)); have n16_ := Aside0.mk ((by rw [hg]; exact Nat.ne_of_gt (blk_lt (g := gb866) (o := .cells #[.int .i64 t859, .int .i64 t860, .int .i64 t861, .int .i64 t862, .slice Ao29 t863.length co29] 33 (0, 0)) (by (with_reducible repeat (first | refine blk_drewN ?_ _ | refine blk_drew ?_ | refine blk_alloc ?_ _)); exact BK866.out)) : gb875 ≠ gb866)); clear HO849; clear HO856; clear HO865; clear HO873; clear BK841; clear BK858; clear BK866; clear HB; have HO849 := n0_; have HO856 := n1_; have HO865 := n2_; have HO873 := n3_; have BK841 := n4_; have BK858 := n5_; have BK866 := n6_; have HB := n7_; have BK875 := n8_; have GW875 := n9_; have GE875 := n10_; have NB841_875 := n11_; have NB875_841 := n12_; have NB858_875 := n13_; have NB875_858 := n14_; have NB866_875 := n15_; have NB875_866 := n16_; clear n0_ n1_ n2_ n3_ n4_ n5_ n6_ n7_ n8_ n9_ n10_ n11_ n12_ n13_ n14_ n15_ n16_; clear hb hbox hg; have hnb32 := NB875_841.out; have hnc32 := NB841_875.out; have hnb33 := NB875_858.out; have hnc33 := NB858_875.out; have hnb34 := NB875_866.out; have hnc34 := NB866_875.out; have hcz35_0 : w31.cell? ⟨gb875, 0, none⟩ = some (.int .i64 0) := (blk_cell BK875.out 0).trans rfl; have hcz35_1 : w31.cell? ⟨gb875, 1, none⟩ = some (.int .i64 0) := (blk_cell BK875.out 1).trans rfl; have hcz35_2 : w31.cell? ⟨gb875, 2, none⟩ = some (.int .i64 0) := (blk_cell BK875.out 2).trans rfl; have hcz35_3 : w31.cell? ⟨gb875, 3, none⟩ = some (.int .i64 0) := (blk_cell BK875.out 3).trans rfl; have hcz35_4 : w31.cell? ⟨gb875, 4, none⟩ = some (.slice none 0 0) := (blk_cell BK875.out 4).trans rfl; have hfz35_0 := blk_frozen BK875.out 0; have hfz35_1 := blk_frozen BK875.out 1; have hfz35_2 := blk_frozen BK875.out 2; have hfz35_3 := blk_frozen BK875.out 3; have hfz35_4 := blk_frozen BK875.out 4; obtain ⟨Ao36, co36, eo36⟩ := Kd.R_slice HO873.out; subst eo36))
  (try simp only [Act.put, List.setIfInBounds_toArray, List.set_cons_zero, List.set_cons_succ])
  go_cut [40] (fun v40 wc => ∃ (kq : Nat) (x40_10 : Bool), v40 = .bool x40_10 ∧ Aside0 (laws_FnExactNormalAxis.j0 kq t857 t874 x40_10 a0_0 a0_1 a0_2 a0_3 l0_4 t850 t851 t852 t853 t854 t859 t860 t861 t862 t863 t867 t868 t869 t870 t871 = some r) ∧ Aside0 (kq ≤ k) ∧ Aside0 (Kd.R k69 69 wc w.heap.size (fun k_ => some k_ ≠ ((.slice Ao29 t863.length co29) : Value).ownBlock ∧ some k_ ≠ ((.slice Ao36 t871.length co36) : Value).ownBlock) (.slice Ao22 t854.length co22) t854) ∧ Aside0 (Kd.R k69 69 wc w.heap.size (fun k_ => some k_ ≠ ((.slice Ao22 t854.length co22) : Value).ownBlock ∧ some k_ ≠ ((.slice Ao36 t871.length co36) : Value).ownBlock) (.slice Ao29 t863.length co29) t863) ∧ Aside0 (Kd.R k69 69 wc w.heap.size (fun k_ => some k_ ≠ ((.slice Ao22 t854.length co22) : Value).ownBlock ∧ some k_ ≠ ((.slice Ao29 t863.length co29) : Value).ownBlock) (.slice Ao36 t871.length co36) t871) ∧ Aside0 (wc.heap[gb841]? = some (.cells #[.int .i64 a0_0, .int .i64 a0_1, .int .i64 a0_2, .int .i64 a0_3, (.slice A0_4 l0_4.length c0_4)] 26 (0, 0))) ∧ Aside0 (wc.heap[gb858]? = some (.cells #[.int .i64 t850, .int .i64 t851, .int .i64 t852, .int .i64 t853, (.slice Ao22 t854.length co22)] 33 (0, 0))) ∧ Aside0 (wc.heap[gb866]? = some (.cells #[.int .i64 t859, .int .i64 t860, .int .i64 t861, .int .i64 t862, (.slice Ao29 t863.length co29)] 33 (0, 0))) ∧ Aside0 (wc.heap[gb875]? = some (.cells #[.int .i64 t867, .int .i64 t868, .int .i64 t869, .int .i64 t870, (.slice Ao36 t871.length co36)] 33 (0, 0))) ∧ Aside0 (Below w.heap.size w wc))
  case first =>
   have H := HC11.out
   clear HC11
   replace H := Option.bind_eq_some_iff.mp H
   obtain ⟨t876, A370, H⟩ := H
   replace H : (if t876 = true then (laws_FnExactNormalAxis.j0 k t857 t874 (t874 != t857) a0_0 a0_1 a0_2 a0_3 l0_4 t850 t851 t852 t853 t854 t859 t860 t861 t862 t863 t867 t868 t869 t870 t871) else (laws_FnExactNormalAxis.j0 k t857 t874 true a0_0 a0_1 a0_2 a0_3 l0_4 t850 t851 t852 t853 t854 t859 t860 t861 t862 t863 t867 t868 t869 t870 t871)) = some r := H
   have A37 := Aside0.mk A370
   clear A370
   by_cases c38 : t876 = true
   ·subst c38
    have H1 : (laws_FnExactNormalAxis.j0 k t857 t874 (t874 != t857) a0_0 a0_1 a0_2 a0_3 l0_4 t850 t851 t852 t853 t854 t859 t860 t861 t862 t863 t867 t868 t869 t870 t871) = some r := by rw [if_pos rfl] at H; exact H
    clear H
    have H := H1
    clear H1
    have H' := Aside0.mk H
    clear H
    have hnb39 := NB875_841.out
    have hnc39 := NB841_875.out
    have hnb40 := NB875_858.out
    have hnc40 := NB858_875.out
    have hnb41 := NB875_866.out
    have hnc41 := NB866_875.out
    have hcz42_0 : w31.cell? ⟨gb875, 0, none⟩ = some (.int .i64 0) := (blk_cell BK875.out 0).trans rfl
    have hcz42_1 : w31.cell? ⟨gb875, 1, none⟩ = some (.int .i64 0) := (blk_cell BK875.out 1).trans rfl
    have hcz42_2 : w31.cell? ⟨gb875, 2, none⟩ = some (.int .i64 0) := (blk_cell BK875.out 2).trans rfl
    have hcz42_3 : w31.cell? ⟨gb875, 3, none⟩ = some (.int .i64 0) := (blk_cell BK875.out 3).trans rfl
    have hcz42_4 : w31.cell? ⟨gb875, 4, none⟩ = some (.slice none 0 0) := (blk_cell BK875.out 4).trans rfl
    have hfz42_0 := blk_frozen BK875.out 0
    have hfz42_1 := blk_frozen BK875.out 1
    have hfz42_2 := blk_frozen BK875.out 2
    have hfz42_3 := blk_frozen BK875.out 3
    have hfz42_4 := blk_frozen BK875.out 4
    have hnb43 := NB858_841.out
    have hnc43 := NB841_858.out
    have hnb44 := NB858_866.out
    have hnc44 := NB866_858.out
    have hcz45_0 : w31.cell? ⟨gb858, 0, none⟩ = some (.int .i64 t850) := (blk_cell BK858.out 0).trans rfl
    have hcz45_1 : w31.cell? ⟨gb858, 1, none⟩ = some (.int .i64 t851) := (blk_cell BK858.out 1).trans rfl
    have hcz45_2 : w31.cell? ⟨gb858, 2, none⟩ = some (.int .i64 t852) := (blk_cell BK858.out 2).trans rfl
    have hcz45_3 : w31.cell? ⟨gb858, 3, none⟩ = some (.int .i64 t853) := (blk_cell BK858.out 3).trans rfl
    have hcz45_4 : w31.cell? ⟨gb858, 4, none⟩ = some (.slice Ao22 t854.length co22) := (blk_cell BK858.out 4).trans rfl
    have hfz45_0 := blk_frozen BK858.out 0
    have hfz45_1 := blk_frozen BK858.out 1
    have hfz45_2 := blk_frozen BK858.out 2
    have hfz45_3 := blk_frozen BK858.out 3
    have hfz45_4 := blk_frozen BK858.out 4
    go_wp2_with (first | ((with_reducible refine gate_callee (f := 20) rfl ?_); refine goesL_ (some 34) rfl rfl Try.func20 (by kernel_rfl) rfl #[.agg #[.int .i64 t867, .int .i64 t868, .int .i64 t869, .int .i64 t870, .slice Ao36 t871.length co36], .agg #[.int .i64 t850, .int .i64 t851, .int .i64 t852, .int .i64 t853, .slice Ao22 t854.length co22]] rfl (by (try simp only [List.map_toArray, List.map_cons, List.map_nil]); first | done | rfl | (simp only [List.length_drop, List.length_take]; rfl)) ?_; (with_reducible refine (laws_eqAxis.calls k t867 t868 t869 t870 _ _ t871 t850 t851 t852 t853 _ _ t854 true _ ?side1 ?side2 ?side3 ?side4 A37.out).mono ?_); (case side1 => refine (Kd.R_reads' (e := 69) (base := w.heap.size) (ok := fun k_ => (((True ∧ some k_ ≠ (.slice Ao17 t847.length co17 : Value).ownBlock) ∧ some k_ ≠ (.slice Ao22 t854.length co22 : Value).ownBlock) ∧ some k_ ≠ (.slice Ao29 t863.length co29 : Value).ownBlock)) (n := t871.length) (c := co36) ?_).2.2; exact (by (with_reducible repeat (first | apply Kd.R_alloc | apply Kd.R_drewN | apply Kd.R_drew)); exact (Kd.R_mono (Kd.R_far (p := ⟨gb875, 4, none⟩) (Kd.R_far (p := ⟨gb875, 3, none⟩) (Kd.R_far (p := ⟨gb875, 2, none⟩) (Kd.R_far (p := ⟨gb875, 1, none⟩) (Kd.R_far (p := ⟨gb875, 0, none⟩) (Kd.R_types HO873.out BK875.out (by decide)) (fun _ hk => hk.2) (.int .i64 t867)) (fun _ hk => hk.2) (.int .i64 t868)) (fun _ hk => hk.2) (.int .i64 t869)) (fun _ hk => hk.2) (.int .i64 t870)) (fun _ hk => hk.2) (.slice Ao36 t871.length co36)) (fun _ h_ => h_.1)))); (case side2 => exact (Kd.R_reads' HO873.out).2.1); (case side3 => refine (Kd.R_reads' (e := 69) (base := w.heap.size) (ok := fun k_ => (((True ∧ some k_ ≠ (.slice Ao17 t847.length co17 : Value).ownBlock) ∧ some k_ ≠ (.slice Ao29 t863.length co29 : Value).ownBlock) ∧ some k_ ≠ (.slice Ao36 t871.length co36 : Value).ownBlock)) (n := t854.length) (c := co22) ?_).2.2; exact (by (with_reducible repeat (first | apply Kd.R_alloc | apply Kd.R_drewN | apply Kd.R_drew)); exact (Kd.R_mono (Kd.R_far (p := ⟨gb875, 4, none⟩) (Kd.R_far (p := ⟨gb875, 3, none⟩) (Kd.R_far (p := ⟨gb875, 2, none⟩) (Kd.R_far (p := ⟨gb875, 1, none⟩) (Kd.R_far (p := ⟨gb875, 0, none⟩) (Kd.R_types HO856.out BK875.out (by decide)) (fun _ hk => hk.2) (.int .i64 t867)) (fun _ hk => hk.2) (.int .i64 t868)) (fun _ hk => hk.2) (.int .i64 t869)) (fun _ hk => hk.2) (.int .i64 t870)) (fun _ hk => hk.2) (.slice Ao36 t871.length co36)) (fun _ h_ => h_.1)))); (case side4 => exact (Kd.R_reads' HO856.out).2.1); rintro e w46 ⟨rfl, hb⟩; refine ⟨_, rfl, ?_⟩; have n0_ := Aside0.mk (Kd.R_below (by (with_reducible repeat (first | apply Kd.R_alloc | apply Kd.R_drewN | apply Kd.R_drew)); exact (Kd.R_mono (Kd.R_far (p := ⟨gb875, 4, none⟩) (Kd.R_far (p := ⟨gb875, 3, none⟩) (Kd.R_far (p := ⟨gb875, 2, none⟩) (Kd.R_far (p := ⟨gb875, 1, none⟩) (Kd.R_far (p := ⟨gb875, 0, none⟩) (Kd.R_types HO849.out BK875.out (by decide)) (fun _ hk => hk.2) (.int .i64 t867)) (fun _ hk => hk.2) (.int .i64 t868)) (fun _ hk => hk.2) (.int .i64 t869)) (fun _ hk => hk.2) (.int .i64 t870)) (fun _ hk => hk.2) (.slice Ao36 t871.length co36)) (fun _ h_ => h_.1))) hb); have n1_ := Aside0.mk (Kd.R_below (by (with_reducible repeat (first | apply Kd.R_alloc | apply Kd.R_drewN | apply Kd.R_drew)); exact (Kd.R_mono (Kd.R_far (p := ⟨gb875, 4, none⟩) (Kd.R_far (p := ⟨gb875, 3, none⟩) (Kd.R_far (p := ⟨gb875, 2, none⟩) (Kd.R_far (p := ⟨gb875, 1, none⟩) (Kd.R_far (p := ⟨gb875, 0, none⟩) (Kd.R_types HO856.out BK875.out (by decide)) (fun _ hk => hk.2) (.int .i64 t867)) (fun _ hk => hk.2) (.int .i64 t868)) (fun _ hk => hk.2) (.int .i64 t869)) (fun _ hk => hk.2) (.int .i64 t870)) (fun _ hk => hk.2) (.slice Ao36 t871.length co36)) (fun _ h_ => h_.1))) hb); have n2_ := Aside0.mk (Kd.R_below (by (with_reducible repeat (first | apply Kd.R_alloc | apply Kd.R_drewN | apply Kd.R_drew)); exact (Kd.R_mono (Kd.R_far (p := ⟨gb875, 4, none⟩) (Kd.R_far (p := ⟨gb875, 3, none⟩) (Kd.R_far (p := ⟨gb875, 2, none⟩) (Kd.R_far (p := ⟨gb875, 1, none⟩) (Kd.R_far (p := ⟨gb875, 0, none⟩) (Kd.R_types HO865.out BK875.out (by decide)) (fun _ hk => hk.2) (.int .i64 t867)) (fun _ hk => hk.2) (.int .i64 t868)) (fun _ hk => hk.2) (.int .i64 t869)) (fun _ hk => hk.2) (.int .i64 t870)) (fun _ hk => hk.2) (.slice Ao36 t871.length co36)) (fun _ h_ => h_.1))) hb); have n3_ := Aside0.mk (Kd.R_below (by (with_reducible repeat (first | apply Kd.R_alloc | apply Kd.R_drewN | apply Kd.R_drew)); exact (Kd.R_mono (Kd.R_far (p := ⟨gb875, 4, none⟩) (Kd.R_far (p := ⟨gb875, 3, none⟩) (Kd.R_far (p := ⟨gb875, 2, none⟩) (Kd.R_far (p := ⟨gb875, 1, none⟩) (Kd.R_far (p := ⟨gb875, 0, none⟩) (Kd.R_types HO873.out BK875.out (by decide)) (fun _ hk => hk.2) (.int .i64 t867)) (fun _ hk => hk.2) (.int .i64 t868)) (fun _ hk => hk.2) (.int .i64 t869)) (fun _ hk => hk.2) (.int .i64 t870)) (fun _ hk => hk.2) (.slice Ao36 t871.length co36)) (fun _ h_ => h_.1))) hb); have n4_ := Aside0.mk (blk_below (g := gb841) (o := .cells #[.int .i64 a0_0, .int .i64 a0_1, .int .i64 a0_2, .int .i64 a0_3, .slice A0_4 l0_4.length c0_4] 26 (0, 0)) (by (with_reducible repeat (first | refine blk_drewN ?_ _ | refine blk_drew ?_ | refine blk_alloc ?_ _)); refine blk_far ?_ NB841_875.out _; (with_reducible repeat (first | refine blk_drewN ?_ _ | refine blk_drew ?_ | refine blk_alloc ?_ _)); refine blk_far ?_ NB841_875.out _; (with_reducible repeat (first | refine blk_drewN ?_ _ | refine blk_drew ?_ | refine blk_alloc ?_ _)); refine blk_far ?_ NB841_875.out _; (with_reducible repeat (first | refine blk_drewN ?_ _ | refine blk_drew ?_ | refine blk_alloc ?_ _)); refine blk_far ?_ NB841_875.out _; (with_reducible repeat (first | refine blk_drewN ?_ _ | refine blk_drew ?_ | refine blk_alloc ?_ _)); refine blk_far ?_ NB841_875.out _; (with_reducible repeat (first | refine blk_drewN ?_ _ | refine blk_drew ?_ | refine blk_alloc ?_ _)); exact BK841.out) hb); have n5_ := Aside0.mk (blk_below (g := gb858) (o := .cells #[.int .i64 t850, .int .i64 t851, .int .i64 t852, .int .i64 t853, .slice Ao22 t854.length co22] 33 (0, 0)) (by (with_reducible repeat (first | refine blk_drewN ?_ _ | refine blk_drew ?_ | refine blk_alloc ?_ _)); refine blk_far ?_ NB858_875.out _; (with_reducible repeat (first | refine blk_drewN ?_ _ | refine blk_drew ?_ | refine blk_alloc ?_ _)); refine blk_far ?_ NB858_875.out _; (with_reducible repeat (first | refine blk_drewN ?_ _ | refine blk_drew ?_ | refine blk_alloc ?_ _)); refine blk_far ?_ NB858_875.out _; (with_reducible repeat (first | refine blk_drewN ?_ _ | refine blk_drew ?_ | refine blk_alloc ?_ _)); refine blk_far ?_ NB858_875.out _; (with_reducible repeat (first | refine blk_drewN ?_ _ | refine blk_drew ?_ | refine blk_alloc ?_ _)); refine blk_far ?_ NB858_875.out _; (with_reducible repeat (first | refine blk_drewN ?_ _ | refine blk_drew ?_ | refine blk_alloc ?_ _)); exact BK858.out) hb); have n6_ := Aside0.mk (blk_below (g := gb866) (o := .cells #[.int .i64 t859, .int .i64 t860, .int .i64 t861, .int .i64 t862, .slice Ao29 t863.length co29] 33 (0, 0)) (by (with_reducible repeat (first | refine blk_drewN ?_ _ | refine blk_drew ?_ | refine blk_alloc ?_ _)); refine blk_far ?_ NB866_875.out _; (with_reducible repeat (first | refine blk_drewN ?_ _ | refine blk_drew ?_ | refine blk_alloc ?_ _)); refine blk_far ?_ NB866_875.out _; (with_reducible repeat (first | refine blk_drewN ?_ _ | refine blk_drew ?_ | refine blk_alloc ?_ _)); refine blk_far ?_ NB866_875.out _; (with_reducible repeat (first | refine blk_drewN ?_ _ | refine blk_drew ?_ | refine blk_alloc ?_ _)); refine blk_far ?_ NB866_875.out _; (with_reducible repeat (first | refine blk_drewN ?_ _ | refine blk_drew ?_ | refine blk_alloc ?_ _)); refine blk_far ?_ NB866_875.out _; (with_reducible repeat (first | refine blk_drewN ?_ _ | refine blk_drew ?_ | refine blk_alloc ?_ _)); exact BK866.out) hb); have n7_ := Aside0.mk (blk_below (g := gb875) (o := .cells #[.int .i64 t867, .int .i64 t868, .int .i64 t869, .int .i64 t870, .slice Ao36 t871.length co36] 33 (0, 0)) (by (with_reducible repeat (first | refine blk_drewN ?_ _ | refine blk_drew ?_ | refine blk_alloc ?_ _)); refine blk_put (cs := #[.int .i64 t867, .int .i64 t868, .int .i64 t869, .int .i64 t870, .slice none 0 0]) ?_ 4 _ rfl; (with_reducible repeat (first | refine blk_drewN ?_ _ | refine blk_drew ?_ | refine blk_alloc ?_ _)); refine blk_put (cs := #[.int .i64 t867, .int .i64 t868, .int .i64 t869, .int .i64 0, .slice none 0 0]) ?_ 3 _ rfl; (with_reducible repeat (first | refine blk_drewN ?_ _ | refine blk_drew ?_ | refine blk_alloc ?_ _)); refine blk_put (cs := #[.int .i64 t867, .int .i64 t868, .int .i64 0, .int .i64 0, .slice none 0 0]) ?_ 2 _ rfl; (with_reducible repeat (first | refine blk_drewN ?_ _ | refine blk_drew ?_ | refine blk_alloc ?_ _)); refine blk_put (cs := #[.int .i64 t867, .int .i64 0, .int .i64 0, .int .i64 0, .slice none 0 0]) ?_ 1 _ rfl; (with_reducible repeat (first | refine blk_drewN ?_ _ | refine blk_drew ?_ | refine blk_alloc ?_ _)); refine blk_put (cs := #[.int .i64 0, .int .i64 0, .int .i64 0, .int .i64 0, .slice none 0 0]) ?_ 0 _ rfl; (with_reducible repeat (first | refine blk_drewN ?_ _ | refine blk_drew ?_ | refine blk_alloc ?_ _)); exact BK875.out) hb); have n8_ := Aside0.mk (below_step (by repeat (first | (with_reducible first | exact HB.out | apply below_alloc | apply pw_below_drewN | apply below_drew1 | refine below_set ?_ GE841.out | refine below_set ?_ GE858.out | refine below_set ?_ GE866.out | refine below_set ?_ GE875.out) | exact HB.out)) hb); clear HO849; clear HO856; clear HO865; clear HO873; clear BK841; clear BK858; clear BK866; clear BK875; clear HB; have HO849 := n0_; have HO856 := n1_; have HO865 := n2_; have HO873 := n3_; have BK841 := n4_; have BK858 := n5_; have BK866 := n6_; have BK875 := n7_; have HB := n8_; clear n0_ n1_ n2_ n3_ n4_ n5_ n6_ n7_ n8_; (try clear hb); (try clear hb2); (try clear hk); (try clear hi)))
    go_meet
    case rel => exact ⟨_, ((t874 != t857)), (by first | rfl | (simp; done) | (simp [*]; done)), H', ⟨by first | omega | exact Nat.le_refl _⟩, ⟨by (with_reducible repeat (first | apply Kd.R_alloc | apply Kd.R_drewN | apply Kd.R_drew)); exact Kd.R_mono HO856.out (fun _ hk => ⟨hk.1.2, hk.2⟩)⟩, ⟨by (with_reducible repeat (first | apply Kd.R_alloc | apply Kd.R_drewN | apply Kd.R_drew)); exact Kd.R_mono HO865.out (fun _ hk => ⟨hk.1.2, hk.2⟩)⟩, ⟨by (with_reducible repeat (first | apply Kd.R_alloc | apply Kd.R_drewN | apply Kd.R_drew)); exact Kd.R_mono HO873.out (fun _ hk => ⟨hk.1.2, hk.2⟩)⟩, ⟨by (with_reducible repeat (first | refine blk_drewN ?_ _ | refine blk_drew ?_ | refine blk_alloc ?_ _)); exact BK841.out⟩, ⟨by (with_reducible repeat (first | refine blk_drewN ?_ _ | refine blk_drew ?_ | refine blk_alloc ?_ _)); exact BK858.out⟩, ⟨by (with_reducible repeat (first | refine blk_drewN ?_ _ | refine blk_drew ?_ | refine blk_alloc ?_ _)); exact BK866.out⟩, ⟨by (with_reducible repeat (first | refine blk_drewN ?_ _ | refine blk_drew ?_ | refine blk_alloc ?_ _)); exact BK875.out⟩, ⟨by repeat (first | (with_reducible first | exact HB.out | apply below_alloc | apply pw_below_drewN | apply below_drew1 | refine below_set ?_ GE841.out | refine below_set ?_ GE858.out | refine below_set ?_ GE866.out | refine below_set ?_ GE875.out) | exact HB.out)⟩⟩
   ·replace c38 := Bool.eq_false_iff.mpr c38
    subst c38
    have H1 : (laws_FnExactNormalAxis.j0 k t857 t874 true a0_0 a0_1 a0_2 a0_3 l0_4 t850 t851 t852 t853 t854 t859 t860 t861 t862 t863 t867 t868 t869 t870 t871) = some r := by rw [if_neg (show ¬ (false = true) by decide)] at H; exact H
    clear H
    have H := H1
    clear H1
    have H' := Aside0.mk H
    clear H
    have hnb47 := NB875_841.out
    have hnc47 := NB841_875.out
    have hnb48 := NB875_858.out
    have hnc48 := NB858_875.out
    have hnb49 := NB875_866.out
    have hnc49 := NB866_875.out
    have hcz50_0 : w31.cell? ⟨gb875, 0, none⟩ = some (.int .i64 0) := (blk_cell BK875.out 0).trans rfl
    have hcz50_1 : w31.cell? ⟨gb875, 1, none⟩ = some (.int .i64 0) := (blk_cell BK875.out 1).trans rfl
    have hcz50_2 : w31.cell? ⟨gb875, 2, none⟩ = some (.int .i64 0) := (blk_cell BK875.out 2).trans rfl
    have hcz50_3 : w31.cell? ⟨gb875, 3, none⟩ = some (.int .i64 0) := (blk_cell BK875.out 3).trans rfl
    have hcz50_4 : w31.cell? ⟨gb875, 4, none⟩ = some (.slice none 0 0) := (blk_cell BK875.out 4).trans rfl
    have hfz50_0 := blk_frozen BK875.out 0
    have hfz50_1 := blk_frozen BK875.out 1
    have hfz50_2 := blk_frozen BK875.out 2
    have hfz50_3 := blk_frozen BK875.out 3
    have hfz50_4 := blk_frozen BK875.out 4
    have hnb51 := NB858_841.out
    have hnc51 := NB841_858.out
    have hnb52 := NB858_866.out
    have hnc52 := NB866_858.out
    have hcz53_0 : w31.cell? ⟨gb858, 0, none⟩ = some (.int .i64 t850) := (blk_cell BK858.out 0).trans rfl
    have hcz53_1 : w31.cell? ⟨gb858, 1, none⟩ = some (.int .i64 t851) := (blk_cell BK858.out 1).trans rfl
    have hcz53_2 : w31.cell? ⟨gb858, 2, none⟩ = some (.int .i64 t852) := (blk_cell BK858.out 2).trans rfl
    have hcz53_3 : w31.cell? ⟨gb858, 3, none⟩ = some (.int .i64 t853) := (blk_cell BK858.out 3).trans rfl
    have hcz53_4 : w31.cell? ⟨gb858, 4, none⟩ = some (.slice Ao22 t854.length co22) := (blk_cell BK858.out 4).trans rfl
    have hfz53_0 := blk_frozen BK858.out 0
    have hfz53_1 := blk_frozen BK858.out 1
    have hfz53_2 := blk_frozen BK858.out 2
    have hfz53_3 := blk_frozen BK858.out 3
    have hfz53_4 := blk_frozen BK858.out 4
    go_wp2_with (first | ((with_reducible refine gate_callee (f := 20) rfl ?_); refine goesL_ (some 34) rfl rfl Try.func20 (by kernel_rfl) rfl #[.agg #[.int .i64 t867, .int .i64 t868, .int .i64 t869, .int .i64 t870, .slice Ao36 t871.length co36], .agg #[.int .i64 t850, .int .i64 t851, .int .i64 t852, .int .i64 t853, .slice Ao22 t854.length co22]] rfl (by (try simp only [List.map_toArray, List.map_cons, List.map_nil]); first | done | rfl | (simp only [List.length_drop, List.length_take]; rfl)) ?_; (with_reducible refine (laws_eqAxis.calls k t867 t868 t869 t870 _ _ t871 t850 t851 t852 t853 _ _ t854 false _ ?side1 ?side2 ?side3 ?side4 A37.out).mono ?_); (case side1 => refine (Kd.R_reads' (e := 69) (base := w.heap.size) (ok := fun k_ => (((True ∧ some k_ ≠ (.slice Ao17 t847.length co17 : Value).ownBlock) ∧ some k_ ≠ (.slice Ao22 t854.length co22 : Value).ownBlock) ∧ some k_ ≠ (.slice Ao29 t863.length co29 : Value).ownBlock)) (n := t871.length) (c := co36) ?_).2.2; exact (by (with_reducible repeat (first | apply Kd.R_alloc | apply Kd.R_drewN | apply Kd.R_drew)); exact (Kd.R_mono (Kd.R_far (p := ⟨gb875, 4, none⟩) (Kd.R_far (p := ⟨gb875, 3, none⟩) (Kd.R_far (p := ⟨gb875, 2, none⟩) (Kd.R_far (p := ⟨gb875, 1, none⟩) (Kd.R_far (p := ⟨gb875, 0, none⟩) (Kd.R_types HO873.out BK875.out (by decide)) (fun _ hk => hk.2) (.int .i64 t867)) (fun _ hk => hk.2) (.int .i64 t868)) (fun _ hk => hk.2) (.int .i64 t869)) (fun _ hk => hk.2) (.int .i64 t870)) (fun _ hk => hk.2) (.slice Ao36 t871.length co36)) (fun _ h_ => h_.1)))); (case side2 => exact (Kd.R_reads' HO873.out).2.1); (case side3 => refine (Kd.R_reads' (e := 69) (base := w.heap.size) (ok := fun k_ => (((True ∧ some k_ ≠ (.slice Ao17 t847.length co17 : Value).ownBlock) ∧ some k_ ≠ (.slice Ao29 t863.length co29 : Value).ownBlock) ∧ some k_ ≠ (.slice Ao36 t871.length co36 : Value).ownBlock)) (n := t854.length) (c := co22) ?_).2.2; exact (by (with_reducible repeat (first | apply Kd.R_alloc | apply Kd.R_drewN | apply Kd.R_drew)); exact (Kd.R_mono (Kd.R_far (p := ⟨gb875, 4, none⟩) (Kd.R_far (p := ⟨gb875, 3, none⟩) (Kd.R_far (p := ⟨gb875, 2, none⟩) (Kd.R_far (p := ⟨gb875, 1, none⟩) (Kd.R_far (p := ⟨gb875, 0, none⟩) (Kd.R_types HO856.out BK875.out (by decide)) (fun _ hk => hk.2) (.int .i64 t867)) (fun _ hk => hk.2) (.int .i64 t868)) (fun _ hk => hk.2) (.int .i64 t869)) (fun _ hk => hk.2) (.int .i64 t870)) (fun _ hk => hk.2) (.slice Ao36 t871.length co36)) (fun _ h_ => h_.1)))); (case side4 => exact (Kd.R_reads' HO856.out).2.1); rintro e w54 ⟨rfl, hb⟩; refine ⟨_, rfl, ?_⟩; have n0_ := Aside0.mk (Kd.R_below (by (with_reducible repeat (first | apply Kd.R_alloc | apply Kd.R_drewN | apply Kd.R_drew)); exact (Kd.R_mono (Kd.R_far (p := ⟨gb875, 4, none⟩) (Kd.R_far (p := ⟨gb875, 3, none⟩) (Kd.R_far (p := ⟨gb875, 2, none⟩) (Kd.R_far (p := ⟨gb875, 1, none⟩) (Kd.R_far (p := ⟨gb875, 0, none⟩) (Kd.R_types HO849.out BK875.out (by decide)) (fun _ hk => hk.2) (.int .i64 t867)) (fun _ hk => hk.2) (.int .i64 t868)) (fun _ hk => hk.2) (.int .i64 t869)) (fun _ hk => hk.2) (.int .i64 t870)) (fun _ hk => hk.2) (.slice Ao36 t871.length co36)) (fun _ h_ => h_.1))) hb); have n1_ := Aside0.mk (Kd.R_below (by (with_reducible repeat (first | apply Kd.R_alloc | apply Kd.R_drewN | apply Kd.R_drew)); exact (Kd.R_mono (Kd.R_far (p := ⟨gb875, 4, none⟩) (Kd.R_far (p := ⟨gb875, 3, none⟩) (Kd.R_far (p := ⟨gb875, 2, none⟩) (Kd.R_far (p := ⟨gb875, 1, none⟩) (Kd.R_far (p := ⟨gb875, 0, none⟩) (Kd.R_types HO856.out BK875.out (by decide)) (fun _ hk => hk.2) (.int .i64 t867)) (fun _ hk => hk.2) (.int .i64 t868)) (fun _ hk => hk.2) (.int .i64 t869)) (fun _ hk => hk.2) (.int .i64 t870)) (fun _ hk => hk.2) (.slice Ao36 t871.length co36)) (fun _ h_ => h_.1))) hb); have n2_ := Aside0.mk (Kd.R_below (by (with_reducible repeat (first | apply Kd.R_alloc | apply Kd.R_drewN | apply Kd.R_drew)); exact (Kd.R_mono (Kd.R_far (p := ⟨gb875, 4, none⟩) (Kd.R_far (p := ⟨gb875, 3, none⟩) (Kd.R_far (p := ⟨gb875, 2, none⟩) (Kd.R_far (p := ⟨gb875, 1, none⟩) (Kd.R_far (p := ⟨gb875, 0, none⟩) (Kd.R_types HO865.out BK875.out (by decide)) (fun _ hk => hk.2) (.int .i64 t867)) (fun _ hk => hk.2) (.int .i64 t868)) (fun _ hk => hk.2) (.int .i64 t869)) (fun _ hk => hk.2) (.int .i64 t870)) (fun _ hk => hk.2) (.slice Ao36 t871.length co36)) (fun _ h_ => h_.1))) hb); have n3_ := Aside0.mk (Kd.R_below (by (with_reducible repeat (first | apply Kd.R_alloc | apply Kd.R_drewN | apply Kd.R_drew)); exact (Kd.R_mono (Kd.R_far (p := ⟨gb875, 4, none⟩) (Kd.R_far (p := ⟨gb875, 3, none⟩) (Kd.R_far (p := ⟨gb875, 2, none⟩) (Kd.R_far (p := ⟨gb875, 1, none⟩) (Kd.R_far (p := ⟨gb875, 0, none⟩) (Kd.R_types HO873.out BK875.out (by decide)) (fun _ hk => hk.2) (.int .i64 t867)) (fun _ hk => hk.2) (.int .i64 t868)) (fun _ hk => hk.2) (.int .i64 t869)) (fun _ hk => hk.2) (.int .i64 t870)) (fun _ hk => hk.2) (.slice Ao36 t871.length co36)) (fun _ h_ => h_.1))) hb); have n4_ := Aside0.mk (blk_below (g := gb841) (o := .cells #[.int .i64 a0_0, .int .i64 a0_1, .int .i64 a0_2, .int .i64 a0_3, .slice A0_4 l0_4.length c0_4] 26 (0, 0)) (by (with_reducible repeat (first | refine blk_drewN ?_ _ | refine blk_drew ?_ | refine blk_alloc ?_ _)); refine blk_far ?_ NB841_875.out _; (with_reducible repeat (first | refine blk_drewN ?_ _ | refine blk_drew ?_ | refine blk_alloc ?_ _)); refine blk_far ?_ NB841_875.out _; (with_reducible repeat (first | refine blk_drewN ?_ _ | refine blk_drew ?_ | refine blk_alloc ?_ _)); refine blk_far ?_ NB841_875.out _; (with_reducible repeat (first | refine blk_drewN ?_ _ | refine blk_drew ?_ | refine blk_alloc ?_ _)); refine blk_far ?_ NB841_875.out _; (with_reducible repeat (first | refine blk_drewN ?_ _ | refine blk_drew ?_ | refine blk_alloc ?_ _)); refine blk_far ?_ NB841_875.out _; (with_reducible repeat (first | refine blk_drewN ?_ _ | refine blk_drew ?_ | refine blk_alloc ?_ _)); exact BK841.out) hb); have n5_ := Aside0.mk (blk_below (g := gb858) (o := .cells #[.int .i64 t850, .int .i64 t851, .int .i64 t852, .int .i64 t853, .slice Ao22 t854.length co22] 33 (0, 0)) (by (with_reducible repeat (first | refine blk_drewN ?_ _ | refine blk_drew ?_ | refine blk_alloc ?_ _)); refine blk_far ?_ NB858_875.out _; (with_reducible repeat (first | refine blk_drewN ?_ _ | refine blk_drew ?_ | refine blk_alloc ?_ _)); refine blk_far ?_ NB858_875.out _; (with_reducible repeat (first | refine blk_drewN ?_ _ | refine blk_drew ?_ | refine blk_alloc ?_ _)); refine blk_far ?_ NB858_875.out _; (with_reducible repeat (first | refine blk_drewN ?_ _ | refine blk_drew ?_ | refine blk_alloc ?_ _)); refine blk_far ?_ NB858_875.out _; (with_reducible repeat (first | refine blk_drewN ?_ _ | refine blk_drew ?_ | refine blk_alloc ?_ _)); refine blk_far ?_ NB858_875.out _; (with_reducible repeat (first | refine blk_drewN ?_ _ | refine blk_drew ?_ | refine blk_alloc ?_ _)); exact BK858.out) hb); have n6_ := Aside0.mk (blk_below (g := gb866) (o := .cells #[.int .i64 t859, .int .i64 t860, .int .i64 t861, .int .i64 t862, .slice Ao29 t863.length co29] 33 (0, 0)) (by (with_reducible repeat (first | refine blk_drewN ?_ _ | refine blk_drew ?_ | refine blk_alloc ?_ _)); refine blk_far ?_ NB866_875.out _; (with_reducible repeat (first | refine blk_drewN ?_ _ | refine blk_drew ?_ | refine blk_alloc ?_ _)); refine blk_far ?_ NB866_875.out _; (with_reducible repeat (first | refine blk_drewN ?_ _ | refine blk_drew ?_ | refine blk_alloc ?_ _)); refine blk_far ?_ NB866_875.out _; (with_reducible repeat (first | refine blk_drewN ?_ _ | refine blk_drew ?_ | refine blk_alloc ?_ _)); refine blk_far ?_ NB866_875.out _; (with_reducible repeat (first | refine blk_drewN ?_ _ | refine blk_drew ?_ | refine blk_alloc ?_ _)); refine blk_far ?_ NB866_875.out _; (with_reducible repeat (first | refine blk_drewN ?_ _ | refine blk_drew ?_ | refine blk_alloc ?_ _)); exact BK866.out) hb); have n7_ := Aside0.mk (blk_below (g := gb875) (o := .cells #[.int .i64 t867, .int .i64 t868, .int .i64 t869, .int .i64 t870, .slice Ao36 t871.length co36] 33 (0, 0)) (by (with_reducible repeat (first | refine blk_drewN ?_ _ | refine blk_drew ?_ | refine blk_alloc ?_ _)); refine blk_put (cs := #[.int .i64 t867, .int .i64 t868, .int .i64 t869, .int .i64 t870, .slice none 0 0]) ?_ 4 _ rfl; (with_reducible repeat (first | refine blk_drewN ?_ _ | refine blk_drew ?_ | refine blk_alloc ?_ _)); refine blk_put (cs := #[.int .i64 t867, .int .i64 t868, .int .i64 t869, .int .i64 0, .slice none 0 0]) ?_ 3 _ rfl; (with_reducible repeat (first | refine blk_drewN ?_ _ | refine blk_drew ?_ | refine blk_alloc ?_ _)); refine blk_put (cs := #[.int .i64 t867, .int .i64 t868, .int .i64 0, .int .i64 0, .slice none 0 0]) ?_ 2 _ rfl; (with_reducible repeat (first | refine blk_drewN ?_ _ | refine blk_drew ?_ | refine blk_alloc ?_ _)); refine blk_put (cs := #[.int .i64 t867, .int .i64 0, .int .i64 0, .int .i64 0, .slice none 0 0]) ?_ 1 _ rfl; (with_reducible repeat (first | refine blk_drewN ?_ _ | refine blk_drew ?_ | refine blk_alloc ?_ _)); refine blk_put (cs := #[.int .i64 0, .int .i64 0, .int .i64 0, .int .i64 0, .slice none 0 0]) ?_ 0 _ rfl; (with_reducible repeat (first | refine blk_drewN ?_ _ | refine blk_drew ?_ | refine blk_alloc ?_ _)); exact BK875.out) hb); have n8_ := Aside0.mk (below_step (by repeat (first | (with_reducible first | exact HB.out | apply below_alloc | apply pw_below_drewN | apply below_drew1 | refine below_set ?_ GE841.out | refine below_set ?_ GE858.out | refine below_set ?_ GE866.out | refine below_set ?_ GE875.out) | exact HB.out)) hb); clear HO849; clear HO856; clear HO865; clear HO873; clear BK841; clear BK858; clear BK866; clear BK875; clear HB; have HO849 := n0_; have HO856 := n1_; have HO865 := n2_; have HO873 := n3_; have BK841 := n4_; have BK858 := n5_; have BK866 := n6_; have BK875 := n7_; have HB := n8_; clear n0_ n1_ n2_ n3_ n4_ n5_ n6_ n7_ n8_; (try clear hb); (try clear hb2); (try clear hk); (try clear hi)))
    go_meet
    case rel => exact ⟨_, (true), (by first | rfl | (simp; done) | (simp [*]; done)), H', ⟨by first | omega | exact Nat.le_refl _⟩, ⟨by (with_reducible repeat (first | apply Kd.R_alloc | apply Kd.R_drewN | apply Kd.R_drew)); exact Kd.R_mono HO856.out (fun _ hk => ⟨hk.1.2, hk.2⟩)⟩, ⟨by (with_reducible repeat (first | apply Kd.R_alloc | apply Kd.R_drewN | apply Kd.R_drew)); exact Kd.R_mono HO865.out (fun _ hk => ⟨hk.1.2, hk.2⟩)⟩, ⟨by (with_reducible repeat (first | apply Kd.R_alloc | apply Kd.R_drewN | apply Kd.R_drew)); exact Kd.R_mono HO873.out (fun _ hk => ⟨hk.1.2, hk.2⟩)⟩, ⟨by (with_reducible repeat (first | refine blk_drewN ?_ _ | refine blk_drew ?_ | refine blk_alloc ?_ _)); exact BK841.out⟩, ⟨by (with_reducible repeat (first | refine blk_drewN ?_ _ | refine blk_drew ?_ | refine blk_alloc ?_ _)); exact BK858.out⟩, ⟨by (with_reducible repeat (first | refine blk_drewN ?_ _ | refine blk_drew ?_ | refine blk_alloc ?_ _)); exact BK866.out⟩, ⟨by (with_reducible repeat (first | refine blk_drewN ?_ _ | refine blk_drew ?_ | refine blk_alloc ?_ _)); exact BK875.out⟩, ⟨by repeat (first | (with_reducible first | exact HB.out | apply below_alloc | apply pw_below_drewN | apply below_drew1 | refine below_set ?_ GE841.out | refine below_set ?_ GE858.out | refine below_set ?_ GE866.out | refine below_set ?_ GE875.out) | exact HB.out)⟩⟩
  case rest =>
   clear HC11
   try clear c1
   try clear c2
   try clear p2
   try clear c3
   try clear c3b0
   try clear c4
   try clear c5
   try clear c9
   try clear c15
   try clear c17
   try clear c20
   try clear c26
   try clear c27
   try clear c32
   try clear c33
   try clear c34
   try clear c38
   try clear c39
   try clear c40
   try clear c41
   try clear c43
   try clear c44
   try clear c47
   try clear c48
   try clear c49
   try clear c51
   try clear c52
   try clear hcz13_0
   try clear hcz13_1
   try clear hcz13_2
   try clear hcz13_3
   try clear hcz13_4
   try clear hcz15_0
   try clear hcz15_1
   try clear hcz15_2
   try clear hcz15_3
   try clear hcz15_4
   try clear hcz21_0
   try clear hcz21_1
   try clear hcz21_2
   try clear hcz21_3
   try clear hcz21_4
   try clear hcz23_0
   try clear hcz23_1
   try clear hcz23_2
   try clear hcz23_3
   try clear hcz23_4
   try clear hcz28_0
   try clear hcz28_1
   try clear hcz28_2
   try clear hcz28_3
   try clear hcz28_4
   try clear hcz35_0
   try clear hcz35_1
   try clear hcz35_2
   try clear hcz35_3
   try clear hcz35_4
   try clear hcz42_0
   try clear hcz42_1
   try clear hcz42_2
   try clear hcz42_3
   try clear hcz42_4
   try clear hcz45_0
   try clear hcz45_1
   try clear hcz45_2
   try clear hcz45_3
   try clear hcz45_4
   try clear hcz50_0
   try clear hcz50_1
   try clear hcz50_2
   try clear hcz50_3
   try clear hcz50_4
   try clear hcz53_0
   try clear hcz53_1
   try clear hcz53_2
   try clear hcz53_3
   try clear hcz53_4
   try clear hcz5_0
   try clear hcz5_1
   try clear hcz5_2
   try clear hcz5_3
   try clear hcz5_4
   try clear hfz13_0
   try clear hfz13_1
   try clear hfz13_2
   try clear hfz13_3
   try clear hfz13_4
   try clear hfz15_0
   try clear hfz15_1
   try clear hfz15_2
   try clear hfz15_3
   try clear hfz15_4
   try clear hfz21_0
   try clear hfz21_1
   try clear hfz21_2
   try clear hfz21_3
   try clear hfz21_4
   try clear hfz23_0
   try clear hfz23_1
   try clear hfz23_2
   try clear hfz23_3
   try clear hfz23_4
   try clear hfz28_0
   try clear hfz28_1
   try clear hfz28_2
   try clear hfz28_3
   try clear hfz28_4
   try clear hfz35_0
   try clear hfz35_1
   try clear hfz35_2
   try clear hfz35_3
   try clear hfz35_4
   try clear hfz42_0
   try clear hfz42_1
   try clear hfz42_2
   try clear hfz42_3
   try clear hfz42_4
   try clear hfz45_0
   try clear hfz45_1
   try clear hfz45_2
   try clear hfz45_3
   try clear hfz45_4
   try clear hfz50_0
   try clear hfz50_1
   try clear hfz50_2
   try clear hfz50_3
   try clear hfz50_4
   try clear hfz53_0
   try clear hfz53_1
   try clear hfz53_2
   try clear hfz53_3
   try clear hfz53_4
   try clear hfz5_0
   try clear hfz5_1
   try clear hfz5_2
   try clear hfz5_3
   try clear hfz5_4
   obtain ⟨kq, x40_10, rfl, HA, HJ10, HO_859004, HO_867004, HO_876004, BK841, BK858, BK866, BK875, HB⟩ := hcut
   cases kq with
   | zero => exact absurd HA.out (by simp [laws_FnExactNormalAxis.j0])
   | succ kj10 =>
    have H := HA.out
    clear HA
    simp only [laws_FnExactNormalAxis.j0] at H
    by_cases c55 : x40_10 = true
    ·subst c55
     have H1 : (some false) = some r := by rw [if_pos rfl] at H; exact H
     clear H
     have H := H1
     clear H1
     obtain rfl := Option.some.inj H
     go_wp2
     go_ret
     exact ⟨by first | rfl | (simp [errW_none, errW_some] <;> rfl) | (simp [*, errW_none, errW_some] <;> rfl), by repeat (first | (with_reducible first | exact HB.out | apply below_alloc | apply pw_below_drewN | apply below_drew1 | refine below_set ?_ GE841.out | refine below_set ?_ GE858.out | refine below_set ?_ GE866.out | refine below_set ?_ GE875.out) | exact HB.out)⟩
    ·replace c55 := Bool.eq_false_iff.mpr c55
     subst c55
     have H1 : ((laws_toAxis.f kj10 a0_0 a0_1 a0_2 a0_3 l0_4).bind fun bt877 => ((laws_eqAxis.f kj10 t859 t860 t861 t862 t863 bt877.1 bt877.2.1 bt877.2.2.1 bt877.2.2.2.1 bt877.2.2.2.2).bind fun t884 => (if t884 = true then ((laws_markAxis.f kj10 t859 t860 t861 t862 t863 1).bind fun bt885 => (if bt885.1 < 0 then (laws_FnExactNormalAxis.j1 kj10 t857 true a0_0 a0_1 a0_2 a0_3 l0_4 t850 t851 t852 t853 t854 t867 t868 t869 t870 t871) else ((laws_eqAxis.f kj10 t867 t868 t869 t870 t871 t850 t851 t852 t853 t854).bind fun t887 => (if t887 = true then (laws_FnExactNormalAxis.j1 kj10 t857 (t874 != t857) a0_0 a0_1 a0_2 a0_3 l0_4 t850 t851 t852 t853 t854 t867 t868 t869 t870 t871) else (laws_FnExactNormalAxis.j1 kj10 t857 true a0_0 a0_1 a0_2 a0_3 l0_4 t850 t851 t852 t853 t854 t867 t868 t869 t870 t871))))) else (some false)))) = some r := by rw [if_neg (show ¬ (false = true) by decide)] at H; exact H
     clear H
     have H := H1
     clear H1
     replace H := Option.bind_eq_some_iff.mp H
     obtain ⟨⟨t877, t878, t879, t880, t881⟩, A560, H⟩ := H
     replace H : ((laws_eqAxis.f kj10 t859 t860 t861 t862 t863 t877 t878 t879 t880 t881).bind fun t884 => (if t884 = true then ((laws_markAxis.f kj10 t859 t860 t861 t862 t863 1).bind fun bt885 => (if bt885.1 < 0 then (laws_FnExactNormalAxis.j1 kj10 t857 true a0_0 a0_1 a0_2 a0_3 l0_4 t850 t851 t852 t853 t854 t867 t868 t869 t870 t871) else ((laws_eqAxis.f kj10 t867 t868 t869 t870 t871 t850 t851 t852 t853 t854).bind fun t887 => (if t887 = true then (laws_FnExactNormalAxis.j1 kj10 t857 (t874 != t857) a0_0 a0_1 a0_2 a0_3 l0_4 t850 t851 t852 t853 t854 t867 t868 t869 t870 t871) else (laws_FnExactNormalAxis.j1 kj10 t857 true a0_0 a0_1 a0_2 a0_3 l0_4 t850 t851 t852 t853 t854 t867 t868 t869 t870 t871))))) else (some false))) = some r := H
     have A56 := Aside0.mk A560
     clear A560
     replace H := Option.bind_eq_some_iff.mp H
     obtain ⟨t884, A570, H⟩ := H
     replace H : (if t884 = true then ((laws_markAxis.f kj10 t859 t860 t861 t862 t863 1).bind fun bt885 => (if bt885.1 < 0 then (laws_FnExactNormalAxis.j1 kj10 t857 true a0_0 a0_1 a0_2 a0_3 l0_4 t850 t851 t852 t853 t854 t867 t868 t869 t870 t871) else ((laws_eqAxis.f kj10 t867 t868 t869 t870 t871 t850 t851 t852 t853 t854).bind fun t887 => (if t887 = true then (laws_FnExactNormalAxis.j1 kj10 t857 (t874 != t857) a0_0 a0_1 a0_2 a0_3 l0_4 t850 t851 t852 t853 t854 t867 t868 t869 t870 t871) else (laws_FnExactNormalAxis.j1 kj10 t857 true a0_0 a0_1 a0_2 a0_3 l0_4 t850 t851 t852 t853 t854 t867 t868 t869 t870 t871))))) else (some false)) = some r := H
     have A57 := Aside0.mk A570
     clear A570
     by_cases c58 : t884 = true
     ·subst c58
      have H1 : ((laws_markAxis.f kj10 t859 t860 t861 t862 t863 1).bind fun bt885 => (if bt885.1 < 0 then (laws_FnExactNormalAxis.j1 kj10 t857 true a0_0 a0_1 a0_2 a0_3 l0_4 t850 t851 t852 t853 t854 t867 t868 t869 t870 t871) else ((laws_eqAxis.f kj10 t867 t868 t869 t870 t871 t850 t851 t852 t853 t854).bind fun t887 => (if t887 = true then (laws_FnExactNormalAxis.j1 kj10 t857 (t874 != t857) a0_0 a0_1 a0_2 a0_3 l0_4 t850 t851 t852 t853 t854 t867 t868 t869 t870 t871) else (laws_FnExactNormalAxis.j1 kj10 t857 true a0_0 a0_1 a0_2 a0_3 l0_4 t850 t851 t852 t853 t854 t867 t868 t869 t870 t871))))) = some r := by rw [if_pos rfl] at H; exact H
      clear H
      have H := H1
      clear H1
      replace H := Option.bind_eq_some_iff.mp H
      obtain ⟨⟨t885, t886⟩, A590, H⟩ := H
      replace H : (if t885 < 0 then (laws_FnExactNormalAxis.j1 kj10 t857 true a0_0 a0_1 a0_2 a0_3 l0_4 t850 t851 t852 t853 t854 t867 t868 t869 t870 t871) else ((laws_eqAxis.f kj10 t867 t868 t869 t870 t871 t850 t851 t852 t853 t854).bind fun t887 => (if t887 = true then (laws_FnExactNormalAxis.j1 kj10 t857 (t874 != t857) a0_0 a0_1 a0_2 a0_3 l0_4 t850 t851 t852 t853 t854 t867 t868 t869 t870 t871) else (laws_FnExactNormalAxis.j1 kj10 t857 true a0_0 a0_1 a0_2 a0_3 l0_4 t850 t851 t852 t853 t854 t867 t868 t869 t870 t871)))) = some r := H
      have A59 := Aside0.mk A590
      clear A590
      have HC60 := Aside0.mk H
      clear H
      try go_wp2
      have n0_ := Aside0.mk (Kd.R_drew HO_859004.out)
      have n1_ := Aside0.mk (Kd.R_drew HO_867004.out)
      have n2_ := Aside0.mk (Kd.R_drew HO_876004.out)
      have n3_ := Aside0.mk (blk_drew BK841.out)
      have n4_ := Aside0.mk (blk_drew BK858.out)
      have n5_ := Aside0.mk (blk_drew BK866.out)
      have n6_ := Aside0.mk (blk_drew BK875.out)
      have n7_ := Aside0.mk (below_drew1 HB.out)
      clear HO_859004
      clear HO_867004
      clear HO_876004
      clear BK841
      clear BK858
      clear BK866
      clear BK875
      clear HB
      have HO_859004 := n0_
      have HO_867004 := n1_
      have HO_876004 := n2_
      have BK841 := n3_
      have BK858 := n4_
      have BK866 := n5_
      have BK875 := n6_
      have HB := n7_
      clear n0_ n1_ n2_ n3_ n4_ n5_ n6_ n7_
      refine start_ (n := 5) (S := fun w' => w'.cell? ⟨gb866, 0, none⟩ = some (.int .i64 t859) ∧ w'.cell? ⟨gb866, 1, none⟩ = some (.int .i64 t860) ∧ w'.cell? ⟨gb866, 2, none⟩ = some (.int .i64 t861) ∧ w'.cell? ⟨gb866, 3, none⟩ = some (.int .i64 t862) ∧ w'.cell? ⟨gb866, 4, none⟩ = some (.slice Ao29 t863.length co29) ∧ w'.cell? ⟨gb841, 0, none⟩ = some (.int .i64 a0_0) ∧ w'.cell? ⟨gb841, 1, none⟩ = some (.int .i64 a0_1) ∧ w'.cell? ⟨gb841, 2, none⟩ = some (.int .i64 a0_2) ∧ w'.cell? ⟨gb841, 3, none⟩ = some (.int .i64 a0_3) ∧ w'.cell? ⟨gb841, 4, none⟩ = some (.slice A0_4 l0_4.length c0_4)) (ds := []) #[false, false, false, false, false] (by kernel_rfl) rfl rfl ⟨(blk_cell BK866.out 0).trans rfl, (blk_cell BK866.out 1).trans rfl, (blk_cell BK866.out 2).trans rfl, (blk_cell BK866.out 3).trans rfl, (blk_cell BK866.out 4).trans rfl, (blk_cell BK841.out 0).trans rfl, (blk_cell BK841.out 1).trans rfl, (blk_cell BK841.out 2).trans rfl, (blk_cell BK841.out 3).trans rfl, (blk_cell BK841.out 4).trans rfl⟩ (fun hHeld => ?_)
      generalize wc.drew = w61 at HO_859004 HO_867004 HO_876004 BK841 BK858 BK866 BK875 HB hHeld ⊢
      refine take_ (i := 0) (N := some 41) (v := ?_) (a' := ?_) #[true, false, false, false, false] rfl rfl (by kernel_rfl) (fun _ _ _ h => h) (Or.inl ⟨by rfl, ?_⟩) hHeld ?_ ?_
      rotate_left
      ·rintro w' ⟨s0, s1, s2, s3, s4, s5, s6, s7, s8, s9⟩
       go_simp
       with_reducible rfl
      rotate_left
      ·simp only [Act.put, List.setIfInBounds_toArray, List.set_cons_zero, List.set_cons_succ, i64_w, i32_w]
       rfl
      refine take_ (i := 1) (N := some 42) (v := ?_) (a' := ?_) #[true, true, false, false, false] rfl rfl (by kernel_rfl) (fun _ _ _ h => h) (Or.inl ⟨by rfl, ?_⟩) hHeld ?_ ?_
      rotate_left
      ·rintro w' ⟨s0, s1, s2, s3, s4, s5, s6, s7, s8, s9⟩
       go_simp
       with_reducible rfl
      rotate_left
      ·simp only [Act.put, List.setIfInBounds_toArray, List.set_cons_zero, List.set_cons_succ, i64_w, i32_w]
       rfl
      refine one_ (i := 2) (N := some 43) #[true, true, true, false, false] rfl rfl (by kernel_rfl) (by decide) (fun K hK => ?_)
      refine goes_ Try.func17 (by kernel_rfl) rfl #[.agg #[.int .i64 a0_0, .int .i64 a0_1, .int .i64 a0_2, .int .i64 a0_3, .slice A0_4 l0_4.length c0_4]] (by rfl) rfl rfl (by (try simp only [List.map_toArray, List.map_cons, List.map_nil]); first | done | rfl | (simp only [List.length_drop, List.length_take]; rfl)) ?_
      with_reducible refine (laws_toAxis.calls kj10 a0_0 a0_1 a0_2 a0_3 _ _ l0_4 t877 t878 t879 t880 t881 _ ?side1 ?side2 A56.out).mono ?_
      (case side1 => repeat (first | exact (Kd.C_below HR0_4.out HB.out) | (with_reducible refine Kd.C_alloc ?_ _) | (with_reducible refine Kd.C_drewN ?_ _) | (with_reducible refine Kd.C_drew ?_)))
      (case side2 => exact HC0_4.out)
      rintro e w62 ⟨v882, rfl, ho0, hb⟩
      refine ⟨_, rfl, ?_⟩
      have n0_ := Aside0.mk (Kd.R_elder' (by (with_reducible repeat (first | apply Kd.R_alloc | apply Kd.R_drewN | apply Kd.R_drew)); exact HO_859004.out) (Kd.R_base ho0) hb)
      have n1_ := Aside0.mk (Kd.R_elder' (by (with_reducible repeat (first | apply Kd.R_alloc | apply Kd.R_drewN | apply Kd.R_drew)); exact HO_867004.out) (Kd.R_base ho0) hb)
      have n2_ := Aside0.mk (Kd.R_elder' (by (with_reducible repeat (first | apply Kd.R_alloc | apply Kd.R_drewN | apply Kd.R_drew)); exact HO_876004.out) (Kd.R_base ho0) hb)
      have n3_ := Aside0.mk (Kd.R_lower (Kd.R_new' (Kd.R_new' (Kd.R_new' ho0 (Kd.R_lt (by (with_reducible repeat (first | apply Kd.R_alloc | apply Kd.R_drewN | apply Kd.R_drew)); exact HO_859004.out))) (Kd.R_lt (by (with_reducible repeat (first | apply Kd.R_alloc | apply Kd.R_drewN | apply Kd.R_drew)); exact HO_867004.out))) (Kd.R_lt (by (with_reducible repeat (first | apply Kd.R_alloc | apply Kd.R_drewN | apply Kd.R_drew)); exact HO_876004.out))) (below_size (by repeat (first | (with_reducible first | exact HB.out | apply below_alloc | apply pw_below_drewN | apply below_drew1 | refine below_set ?_ GE841.out | refine below_set ?_ GE858.out | refine below_set ?_ GE866.out | refine below_set ?_ GE875.out) | exact HB.out))))
      have n4_ := Aside0.mk (blk_below (g := gb841) (o := .cells #[.int .i64 a0_0, .int .i64 a0_1, .int .i64 a0_2, .int .i64 a0_3, .slice A0_4 l0_4.length c0_4] 26 (0, 0)) (by (with_reducible repeat (first | refine blk_drewN ?_ _ | refine blk_drew ?_ | refine blk_alloc ?_ _)); exact BK841.out) hb)
      have n5_ := Aside0.mk (blk_below (g := gb858) (o := .cells #[.int .i64 t850, .int .i64 t851, .int .i64 t852, .int .i64 t853, .slice Ao22 t854.length co22] 33 (0, 0)) (by (with_reducible repeat (first | refine blk_drewN ?_ _ | refine blk_drew ?_ | refine blk_alloc ?_ _)); exact BK858.out) hb)
      have n6_ := Aside0.mk (blk_below (g := gb866) (o := .cells #[.int .i64 t859, .int .i64 t860, .int .i64 t861, .int .i64 t862, .slice Ao29 t863.length co29] 33 (0, 0)) (by (with_reducible repeat (first | refine blk_drewN ?_ _ | refine blk_drew ?_ | refine blk_alloc ?_ _)); exact BK866.out) hb)
      have n7_ := Aside0.mk (blk_below (g := gb875) (o := .cells #[.int .i64 t867, .int .i64 t868, .int .i64 t869, .int .i64 t870, .slice Ao36 t871.length co36] 33 (0, 0)) (by (with_reducible repeat (first | refine blk_drewN ?_ _ | refine blk_drew ?_ | refine blk_alloc ?_ _)); exact BK875.out) hb)
      have n8_ := Aside0.mk (below_step (by repeat (first | (with_reducible first | exact HB.out | apply below_alloc | apply pw_below_drewN | apply below_drew1 | refine below_set ?_ GE841.out | refine below_set ?_ GE858.out | refine below_set ?_ GE866.out | refine below_set ?_ GE875.out) | exact HB.out)) hb)
      clear HO_859004
      clear HO_867004
      clear HO_876004
      clear BK841
      clear BK858
      clear BK866
      clear BK875
      clear HB
      have HO_859004 := n0_
      have HO_867004 := n1_
      have HO_876004 := n2_
      have HO883 := n3_
      have BK841 := n4_
      have BK858 := n5_
      have BK866 := n6_
      have BK875 := n7_
      have HB := n8_
      clear n0_ n1_ n2_ n3_ n4_ n5_ n6_ n7_ n8_
      (try clear hb)
      (try clear hb2)
      (try clear hk)
      (try clear hi)
      (try clear ho0)
      obtain ⟨Ao63, co63, eo63⟩ := Kd.R_slice HO883.out
      (first | subst eo63 | (injection eo63 with f1_ f2_ f3_; have f4_ := f1_.symm; have f5_ := f3_.symm; clear f1_ f2_ f3_; subst f4_; subst f5_))
      refine hK.out _ _ ⟨(blk_cell BK866.out 0).trans rfl, (blk_cell BK866.out 1).trans rfl, (blk_cell BK866.out 2).trans rfl, (blk_cell BK866.out 3).trans rfl, (blk_cell BK866.out 4).trans rfl, (blk_cell BK841.out 0).trans rfl, (blk_cell BK841.out 1).trans rfl, (blk_cell BK841.out 2).trans rfl, (blk_cell BK841.out 3).trans rfl, (blk_cell BK841.out 4).trans rfl⟩ (fun hHeld => ?_)
      clear hK K
      refine norm_ (a' := ?_) ?_ ?_
      rotate_left
      ·show Act.put _ (some 43) _ = _
       simp only [Act.put, List.setIfInBounds_toArray, List.set_cons_zero, List.set_cons_succ, i64_w, i32_w]
       rfl
      refine one_ (i := 3) (N := some 44) #[true, true, true, true, false] rfl rfl (by kernel_rfl) (by decide) (fun K hK => ?_)
      refine goes_ Try.func20 (by kernel_rfl) rfl #[.agg #[.int .i64 t859, .int .i64 t860, .int .i64 t861, .int .i64 t862, .slice Ao29 t863.length co29], .agg #[.int .i64 t877, .int .i64 t878, .int .i64 t879, .int .i64 t880, .slice Ao63 t881.length co63]] (by rfl) rfl rfl (by (try simp only [List.map_toArray, List.map_cons, List.map_nil]); first | done | rfl | (simp only [List.length_drop, List.length_take]; rfl)) ?_
      with_reducible refine (laws_eqAxis.calls kj10 t859 t860 t861 t862 _ _ t863 t877 t878 t879 t880 _ _ t881 true _ ?side1 ?side2 ?side3 ?side4 A57.out).mono ?_
      (case side1 => repeat (first | exact (Kd.R_reads' HO_867004.out).2.2 | (with_reducible refine Kd.C_alloc ?_ _) | (with_reducible refine Kd.C_drewN ?_ _) | (with_reducible refine Kd.C_drew ?_)))
      (case side2 => exact (Kd.R_reads' HO_867004.out).2.1)
      (case side3 => repeat (first | exact (Kd.R_reads' HO883.out).2.2 | (with_reducible refine Kd.C_alloc ?_ _) | (with_reducible refine Kd.C_drewN ?_ _) | (with_reducible refine Kd.C_drew ?_)))
      (case side4 => exact (Kd.R_reads' HO883.out).2.1)
      rintro e w64 ⟨rfl, hb⟩
      refine ⟨_, rfl, ?_⟩
      have n0_ := Aside0.mk (Kd.R_below (by (with_reducible repeat (first | apply Kd.R_alloc | apply Kd.R_drewN | apply Kd.R_drew)); exact HO_859004.out) hb)
      have n1_ := Aside0.mk (Kd.R_below (by (with_reducible repeat (first | apply Kd.R_alloc | apply Kd.R_drewN | apply Kd.R_drew)); exact HO_867004.out) hb)
      have n2_ := Aside0.mk (Kd.R_below (by (with_reducible repeat (first | apply Kd.R_alloc | apply Kd.R_drewN | apply Kd.R_drew)); exact HO_876004.out) hb)
      have n3_ := Aside0.mk (Kd.R_below (by (with_reducible repeat (first | apply Kd.R_alloc | apply Kd.R_drewN | apply Kd.R_drew)); exact HO883.out) hb)
      have n4_ := Aside0.mk (blk_below (g := gb841) (o := .cells #[.int .i64 a0_0, .int .i64 a0_1, .int .i64 a0_2, .int .i64 a0_3, .slice A0_4 l0_4.length c0_4] 26 (0, 0)) (by (with_reducible repeat (first | refine blk_drewN ?_ _ | refine blk_drew ?_ | refine blk_alloc ?_ _)); exact BK841.out) hb)
      have n5_ := Aside0.mk (blk_below (g := gb858) (o := .cells #[.int .i64 t850, .int .i64 t851, .int .i64 t852, .int .i64 t853, .slice Ao22 t854.length co22] 33 (0, 0)) (by (with_reducible repeat (first | refine blk_drewN ?_ _ | refine blk_drew ?_ | refine blk_alloc ?_ _)); exact BK858.out) hb)
      have n6_ := Aside0.mk (blk_below (g := gb866) (o := .cells #[.int .i64 t859, .int .i64 t860, .int .i64 t861, .int .i64 t862, .slice Ao29 t863.length co29] 33 (0, 0)) (by (with_reducible repeat (first | refine blk_drewN ?_ _ | refine blk_drew ?_ | refine blk_alloc ?_ _)); exact BK866.out) hb)
      have n7_ := Aside0.mk (blk_below (g := gb875) (o := .cells #[.int .i64 t867, .int .i64 t868, .int .i64 t869, .int .i64 t870, .slice Ao36 t871.length co36] 33 (0, 0)) (by (with_reducible repeat (first | refine blk_drewN ?_ _ | refine blk_drew ?_ | refine blk_alloc ?_ _)); exact BK875.out) hb)
      have n8_ := Aside0.mk (below_step (by repeat (first | (with_reducible first | exact HB.out | apply below_alloc | apply pw_below_drewN | apply below_drew1 | refine below_set ?_ GE841.out | refine below_set ?_ GE858.out | refine below_set ?_ GE866.out | refine below_set ?_ GE875.out) | exact HB.out)) hb)
      clear HO_859004
      clear HO_867004
      clear HO_876004
      clear HO883
      clear BK841
      clear BK858
      clear BK866
      clear BK875
      clear HB
      have HO_859004 := n0_
      have HO_867004 := n1_
      have HO_876004 := n2_
      have HO883 := n3_
      have BK841 := n4_
      have BK858 := n5_
      have BK866 := n6_
      have BK875 := n7_
      have HB := n8_
      clear n0_ n1_ n2_ n3_ n4_ n5_ n6_ n7_ n8_
      (try clear hb)
      (try clear hb2)
      (try clear hk)
      (try clear hi)
      refine hK.out _ _ ⟨(blk_cell BK866.out 0).trans rfl, (blk_cell BK866.out 1).trans rfl, (blk_cell BK866.out 2).trans rfl, (blk_cell BK866.out 3).trans rfl, (blk_cell BK866.out 4).trans rfl, (blk_cell BK841.out 0).trans rfl, (blk_cell BK841.out 1).trans rfl, (blk_cell BK841.out 2).trans rfl, (blk_cell BK841.out 3).trans rfl, (blk_cell BK841.out 4).trans rfl⟩ (fun hHeld => ?_)
      clear hK K
      refine norm_ (a' := ?_) ?_ ?_
      rotate_left
      ·show Act.put _ (some 44) _ = _
       simp only [Act.put, List.setIfInBounds_toArray, List.set_cons_zero, List.set_cons_succ, i64_w, i32_w]
       rfl
      refine pure_ (i := 4) (N := some 45) (v := ?_) (a' := ?_) #[true, true, true, true, true] rfl rfl (by kernel_rfl) (fun _ _ _ h => h) (Or.inl ⟨by rfl, ?_⟩) ?_ ?_
      rotate_left
      ·intro w'
       go_simp
       with_reducible rfl
      rotate_left
      ·simp only [Act.put, List.setIfInBounds_toArray, List.set_cons_zero, List.set_cons_succ, i64_w, i32_w]
       rfl
      refine done_ (by kernel_rfl) ?_
      have hnb65 := NB866_841.out
      have hnc65 := NB841_866.out
      have hnb66 := NB866_858.out
      have hnc66 := NB858_866.out
      have hnb67 := NB866_875.out
      have hnc67 := NB875_866.out
      have hcz68_0 : w64.cell? ⟨gb866, 0, none⟩ = some (.int .i64 t859) := (blk_cell BK866.out 0).trans rfl
      have hcz68_1 : w64.cell? ⟨gb866, 1, none⟩ = some (.int .i64 t860) := (blk_cell BK866.out 1).trans rfl
      have hcz68_2 : w64.cell? ⟨gb866, 2, none⟩ = some (.int .i64 t861) := (blk_cell BK866.out 2).trans rfl
      have hcz68_3 : w64.cell? ⟨gb866, 3, none⟩ = some (.int .i64 t862) := (blk_cell BK866.out 3).trans rfl
      have hcz68_4 : w64.cell? ⟨gb866, 4, none⟩ = some (.slice Ao29 t863.length co29) := (blk_cell BK866.out 4).trans rfl
      have hfz68_0 := blk_frozen BK866.out 0
      have hfz68_1 := blk_frozen BK866.out 1
      have hfz68_2 := blk_frozen BK866.out 2
      have hfz68_3 := blk_frozen BK866.out 3
      have hfz68_4 := blk_frozen BK866.out 4
      go_upto_region 14 with (first | ((with_reducible refine gate_callee (f := 36) rfl ?_); refine goesL_ (some 48) rfl rfl Try.func36 (by kernel_rfl) rfl #[.agg #[.int .i64 t859, .int .i64 t860, .int .i64 t861, .int .i64 t862, .slice Ao29 t863.length co29], .int .i64 1] rfl (by (try simp only [List.map_toArray, List.map_cons, List.map_nil]); first | done | rfl | (simp only [List.length_drop, List.length_take]; rfl)) ?_; (with_reducible refine (laws_markAxis.calls kj10 t859 t860 t861 t862 (fun k_ => some k_ = (.slice Ao29 t863.length co29 : Value).ownBlock) (.slice Ao29 t863.length co29) t863 1 t885 t886 w _ ?side1 ?side2 A59.out).mono ?_); (case side1 => repeat (first | (with_reducible first | exact HB.out | apply below_alloc | apply pw_below_drewN | apply below_drew1 | refine below_set ?_ GE841.out | refine below_set ?_ GE858.out | refine below_set ?_ GE866.out | refine below_set ?_ GE875.out) | exact HB.out)); (case side2 => exact Kd.R_tight rfl HO_867004.out); rintro e w69 ⟨rfl, hy0, hb, hkp⟩; refine ⟨_, rfl, ?_⟩; have n0_ := Aside0.mk (Kd.R_mono (ok' := fun k_ => some k_ ≠ (.slice Ao29 t863.length co29 : Value).ownBlock ∧ some k_ ≠ (.slice Ao36 t871.length co36 : Value).ownBlock ∧ some k_ ≠ (.slice Ao63 t881.length co63 : Value).ownBlock) (Kd.R_keptB (HO_859004.out) hkp (fun k_ hk_ hs_ => (hk_.1.1) hs_)) (fun k_ hk_ => ⟨hk_.1.1.1, hk_.1.1.2, hk_.1.2⟩)); have n1_ := Aside0.mk (Kd.R_reok rfl hy0 (fun k_ e_ => HO_867004.out.1 k_ e_)); have n2_ := Aside0.mk (Kd.R_mono (ok' := fun k_ => some k_ ≠ (.slice Ao22 t854.length co22 : Value).ownBlock ∧ some k_ ≠ (.slice Ao29 t863.length co29 : Value).ownBlock ∧ some k_ ≠ (.slice Ao63 t881.length co63 : Value).ownBlock) (Kd.R_keptB (HO_876004.out) hkp (fun k_ hk_ hs_ => (hk_.1.2) hs_)) (fun k_ hk_ => ⟨hk_.1.1.1, hk_.1.1.2, hk_.1.2⟩)); have n3_ := Aside0.mk (blk_kept (by (with_reducible repeat (first | refine blk_drewN ?_ _ | refine blk_drew ?_ | refine blk_alloc ?_ _)); exact BK841.out) hkp (fun hs_ => (fun e_ => (Kd.R_ne HO_867004.out BK841.out (by decide)) e_) hs_)); have n4_ := Aside0.mk (blk_kept (by (with_reducible repeat (first | refine blk_drewN ?_ _ | refine blk_drew ?_ | refine blk_alloc ?_ _)); exact BK858.out) hkp (fun hs_ => (fun e_ => (Kd.R_ne HO_867004.out BK858.out (by decide)) e_) hs_)); have n5_ := Aside0.mk (blk_kept (by (with_reducible repeat (first | refine blk_drewN ?_ _ | refine blk_drew ?_ | refine blk_alloc ?_ _)); exact BK866.out) hkp (fun hs_ => (fun e_ => (Kd.R_ne HO_867004.out BK866.out (by decide)) e_) hs_)); have n6_ := Aside0.mk (blk_kept (by (with_reducible repeat (first | refine blk_drewN ?_ _ | refine blk_drew ?_ | refine blk_alloc ?_ _)); exact BK875.out) hkp (fun hs_ => (fun e_ => (Kd.R_ne HO_867004.out BK875.out (by decide)) e_) hs_)); have n7_ := Aside0.mk (Kd.R_mono (ok' := fun k_ => some k_ ≠ (.slice Ao22 t854.length co22 : Value).ownBlock ∧ some k_ ≠ (.slice Ao29 t863.length co29 : Value).ownBlock ∧ some k_ ≠ (.slice Ao36 t871.length co36 : Value).ownBlock) (Kd.R_keptB (HO883.out) hkp (fun k_ hk_ hs_ => (hk_.1.2) hs_)) (fun k_ hk_ => ⟨hk_.1.1.1.2, hk_.1.1.2, hk_.1.2⟩)); have n8_ := Aside0.mk (hb); clear HO_859004; clear HO_867004; clear HO_876004; clear BK841; clear BK858; clear BK866; clear BK875; clear HO883; clear HB; have HO_859004 := n0_; have HO_867004 := n1_; have HO_876004 := n2_; have BK841 := n3_; have BK858 := n4_; have BK866 := n5_; have BK875 := n6_; have HO883 := n7_; have HB := n8_; clear n0_ n1_ n2_ n3_ n4_ n5_ n6_ n7_ n8_; (try clear hb); (try clear hkp); (try clear hy0)))
      (try simp only [Act.put, List.setIfInBounds_toArray, List.set_cons_zero, List.set_cons_succ])
      go_cut [61] (fun v61 wc => ∃ (kq : Nat) (x61_59 : Bool), v61 = .bool x61_59 ∧ Aside0 (laws_FnExactNormalAxis.j1 kq t857 x61_59 a0_0 a0_1 a0_2 a0_3 l0_4 t850 t851 t852 t853 t854 t867 t868 t869 t870 t871 = some r) ∧ Aside0 (kq ≤ kj10) ∧ Aside0 (Kd.R k69 69 wc w.heap.size (fun k_ => some k_ ≠ ((.slice Ao29 t863.length co29) : Value).ownBlock ∧ some k_ ≠ ((.slice Ao36 t871.length co36) : Value).ownBlock) (.slice Ao22 t854.length co22) t854) ∧ Aside0 (Kd.R k69 69 wc w.heap.size (fun k_ => some k_ ≠ ((.slice Ao22 t854.length co22) : Value).ownBlock ∧ some k_ ≠ ((.slice Ao36 t871.length co36) : Value).ownBlock) (.slice Ao29 t863.length co29) t886) ∧ Aside0 (Kd.R k69 69 wc w.heap.size (fun k_ => some k_ ≠ ((.slice Ao22 t854.length co22) : Value).ownBlock ∧ some k_ ≠ ((.slice Ao29 t863.length co29) : Value).ownBlock) (.slice Ao36 t871.length co36) t871) ∧ Aside0 (wc.heap[gb841]? = some (.cells #[.int .i64 a0_0, .int .i64 a0_1, .int .i64 a0_2, .int .i64 a0_3, (.slice A0_4 l0_4.length c0_4)] 26 (0, 0))) ∧ Aside0 (wc.heap[gb858]? = some (.cells #[.int .i64 t850, .int .i64 t851, .int .i64 t852, .int .i64 t853, (.slice Ao22 t854.length co22)] 33 (0, 0))) ∧ Aside0 (wc.heap[gb866]? = some (.cells #[.int .i64 t859, .int .i64 t860, .int .i64 t861, .int .i64 t862, (.slice Ao29 t863.length co29)] 33 (0, 0))) ∧ Aside0 (wc.heap[gb875]? = some (.cells #[.int .i64 t867, .int .i64 t868, .int .i64 t869, .int .i64 t870, (.slice Ao36 t871.length co36)] 33 (0, 0))) ∧ Aside0 (Below w.heap.size w wc))
      case first =>
       have H := HC60.out
       clear HC60
       by_cases c70 : t885 < 0
       ·rw [if_pos c70] at H
        have c70b0 : decide (t885 < 0) = true := decide_eq_true c70
        clear c70
        (first | rw [c70b0] | (simp only [i64_w, i32_w]; rw [c70b0]) | skip)
        have H' := Aside0.mk H
        clear H
        go_wp2
        go_meet
        case rel => exact ⟨_, (true), (by first | rfl | (simp; done) | (simp [*]; done)), H', ⟨by have := HJ10.out; first | omega | exact Nat.le_refl _⟩, ⟨by (with_reducible repeat (first | apply Kd.R_alloc | apply Kd.R_drewN | apply Kd.R_drew)); exact Kd.R_mono HO_859004.out (fun _ hk => ⟨hk.1, hk.2.1⟩)⟩, ⟨by (with_reducible repeat (first | apply Kd.R_alloc | apply Kd.R_drewN | apply Kd.R_drew)); exact Kd.R_mono HO_867004.out (fun _ hk => ⟨hk.1.1, hk.1.2⟩)⟩, ⟨by (with_reducible repeat (first | apply Kd.R_alloc | apply Kd.R_drewN | apply Kd.R_drew)); exact Kd.R_mono HO_876004.out (fun _ hk => ⟨hk.1, hk.2.1⟩)⟩, ⟨by (with_reducible repeat (first | refine blk_drewN ?_ _ | refine blk_drew ?_ | refine blk_alloc ?_ _)); exact BK841.out⟩, ⟨by (with_reducible repeat (first | refine blk_drewN ?_ _ | refine blk_drew ?_ | refine blk_alloc ?_ _)); exact BK858.out⟩, ⟨by (with_reducible repeat (first | refine blk_drewN ?_ _ | refine blk_drew ?_ | refine blk_alloc ?_ _)); exact BK866.out⟩, ⟨by (with_reducible repeat (first | refine blk_drewN ?_ _ | refine blk_drew ?_ | refine blk_alloc ?_ _)); exact BK875.out⟩, ⟨by repeat (first | (with_reducible first | exact HB.out | apply below_alloc | apply pw_below_drewN | apply below_drew1 | refine below_set ?_ GE841.out | refine below_set ?_ GE858.out | refine below_set ?_ GE866.out | refine below_set ?_ GE875.out) | exact HB.out)⟩⟩
       ·rw [if_neg c70] at H
        have c70b0 : decide (t885 < 0) = false := decide_eq_false c70
        clear c70
        (first | rw [c70b0] | (simp only [i64_w, i32_w]; rw [c70b0]) | skip)
        replace H := Option.bind_eq_some_iff.mp H
        obtain ⟨t887, A710, H⟩ := H
        replace H : (if t887 = true then (laws_FnExactNormalAxis.j1 kj10 t857 (t874 != t857) a0_0 a0_1 a0_2 a0_3 l0_4 t850 t851 t852 t853 t854 t867 t868 t869 t870 t871) else (laws_FnExactNormalAxis.j1 kj10 t857 true a0_0 a0_1 a0_2 a0_3 l0_4 t850 t851 t852 t853 t854 t867 t868 t869 t870 t871)) = some r := H
        have A71 := Aside0.mk A710
        clear A710
        by_cases c72 : t887 = true
        ·subst c72
         have H1 : (laws_FnExactNormalAxis.j1 kj10 t857 (t874 != t857) a0_0 a0_1 a0_2 a0_3 l0_4 t850 t851 t852 t853 t854 t867 t868 t869 t870 t871) = some r := by rw [if_pos rfl] at H; exact H
         clear H
         have H := H1
         clear H1
         have H' := Aside0.mk H
         clear H
         have hnb73 := NB875_841.out
         have hnc73 := NB841_875.out
         have hnb74 := NB875_858.out
         have hnc74 := NB858_875.out
         have hnb75 := NB875_866.out
         have hnc75 := NB866_875.out
         have hcz76_0 : w69.cell? ⟨gb875, 0, none⟩ = some (.int .i64 t867) := (blk_cell BK875.out 0).trans rfl
         have hcz76_1 : w69.cell? ⟨gb875, 1, none⟩ = some (.int .i64 t868) := (blk_cell BK875.out 1).trans rfl
         have hcz76_2 : w69.cell? ⟨gb875, 2, none⟩ = some (.int .i64 t869) := (blk_cell BK875.out 2).trans rfl
         have hcz76_3 : w69.cell? ⟨gb875, 3, none⟩ = some (.int .i64 t870) := (blk_cell BK875.out 3).trans rfl
         have hcz76_4 : w69.cell? ⟨gb875, 4, none⟩ = some (.slice Ao36 t871.length co36) := (blk_cell BK875.out 4).trans rfl
         have hfz76_0 := blk_frozen BK875.out 0
         have hfz76_1 := blk_frozen BK875.out 1
         have hfz76_2 := blk_frozen BK875.out 2
         have hfz76_3 := blk_frozen BK875.out 3
         have hfz76_4 := blk_frozen BK875.out 4
         have hnb77 := NB858_841.out
         have hnc77 := NB841_858.out
         have hnb78 := NB858_866.out
         have hnc78 := NB866_858.out
         have hcz79_0 : w69.cell? ⟨gb858, 0, none⟩ = some (.int .i64 t850) := (blk_cell BK858.out 0).trans rfl
         have hcz79_1 : w69.cell? ⟨gb858, 1, none⟩ = some (.int .i64 t851) := (blk_cell BK858.out 1).trans rfl
         have hcz79_2 : w69.cell? ⟨gb858, 2, none⟩ = some (.int .i64 t852) := (blk_cell BK858.out 2).trans rfl
         have hcz79_3 : w69.cell? ⟨gb858, 3, none⟩ = some (.int .i64 t853) := (blk_cell BK858.out 3).trans rfl
         have hcz79_4 : w69.cell? ⟨gb858, 4, none⟩ = some (.slice Ao22 t854.length co22) := (blk_cell BK858.out 4).trans rfl
         have hfz79_0 := blk_frozen BK858.out 0
         have hfz79_1 := blk_frozen BK858.out 1
         have hfz79_2 := blk_frozen BK858.out 2
         have hfz79_3 := blk_frozen BK858.out 3
         have hfz79_4 := blk_frozen BK858.out 4
         go_wp2_with (first | (go_at_call 20; (with_reducible refine (laws_eqAxis.calls kj10 t867 t868 t869 t870 _ _ t871 t850 t851 t852 t853 _ _ t854 true _ ?side1 ?side2 ?side3 ?side4 A71.out).mono ?_); (case side1 => repeat (first | exact (Kd.R_reads' HO_876004.out).2.2 | (with_reducible refine Kd.C_alloc ?_ _) | (with_reducible refine Kd.C_drewN ?_ _) | (with_reducible refine Kd.C_drew ?_))); (case side2 => exact (Kd.R_reads' HO_876004.out).2.1); (case side3 => repeat (first | exact (Kd.R_reads' HO_859004.out).2.2 | (with_reducible refine Kd.C_alloc ?_ _) | (with_reducible refine Kd.C_drewN ?_ _) | (with_reducible refine Kd.C_drew ?_))); (case side4 => exact (Kd.R_reads' HO_859004.out).2.1); rintro e w80 ⟨rfl, hb⟩; have n0_ := Aside0.mk (Kd.R_below (by (with_reducible repeat (first | apply Kd.R_alloc | apply Kd.R_drewN | apply Kd.R_drew)); exact HO_859004.out) hb); have n1_ := Aside0.mk (Kd.R_below (by (with_reducible repeat (first | apply Kd.R_alloc | apply Kd.R_drewN | apply Kd.R_drew)); exact HO_867004.out) hb); have n2_ := Aside0.mk (Kd.R_below (by (with_reducible repeat (first | apply Kd.R_alloc | apply Kd.R_drewN | apply Kd.R_drew)); exact HO_876004.out) hb); have n3_ := Aside0.mk (Kd.R_below (by (with_reducible repeat (first | apply Kd.R_alloc | apply Kd.R_drewN | apply Kd.R_drew)); exact HO883.out) hb); have n4_ := Aside0.mk (blk_below (g := gb841) (o := .cells #[.int .i64 a0_0, .int .i64 a0_1, .int .i64 a0_2, .int .i64 a0_3, .slice A0_4 l0_4.length c0_4] 26 (0, 0)) (by (with_reducible repeat (first | refine blk_drewN ?_ _ | refine blk_drew ?_ | refine blk_alloc ?_ _)); exact BK841.out) hb); have n5_ := Aside0.mk (blk_below (g := gb858) (o := .cells #[.int .i64 t850, .int .i64 t851, .int .i64 t852, .int .i64 t853, .slice Ao22 t854.length co22] 33 (0, 0)) (by (with_reducible repeat (first | refine blk_drewN ?_ _ | refine blk_drew ?_ | refine blk_alloc ?_ _)); exact BK858.out) hb); have n6_ := Aside0.mk (blk_below (g := gb866) (o := .cells #[.int .i64 t859, .int .i64 t860, .int .i64 t861, .int .i64 t862, .slice Ao29 t863.length co29] 33 (0, 0)) (by (with_reducible repeat (first | refine blk_drewN ?_ _ | refine blk_drew ?_ | refine blk_alloc ?_ _)); exact BK866.out) hb); have n7_ := Aside0.mk (blk_below (g := gb875) (o := .cells #[.int .i64 t867, .int .i64 t868, .int .i64 t869, .int .i64 t870, .slice Ao36 t871.length co36] 33 (0, 0)) (by (with_reducible repeat (first | refine blk_drewN ?_ _ | refine blk_drew ?_ | refine blk_alloc ?_ _)); exact BK875.out) hb); have n8_ := Aside0.mk (below_step (by repeat (first | (with_reducible first | exact HB.out | apply below_alloc | apply pw_below_drewN | apply below_drew1 | refine below_set ?_ GE841.out | refine below_set ?_ GE858.out | refine below_set ?_ GE866.out | refine below_set ?_ GE875.out) | exact HB.out)) hb); clear HO_859004; clear HO_867004; clear HO_876004; clear HO883; clear BK841; clear BK858; clear BK866; clear BK875; clear HB; have HO_859004 := n0_; have HO_867004 := n1_; have HO_876004 := n2_; have HO883 := n3_; have BK841 := n4_; have BK858 := n5_; have BK866 := n6_; have BK875 := n7_; have HB := n8_; clear n0_ n1_ n2_ n3_ n4_ n5_ n6_ n7_ n8_; (try clear hb); (try clear hb2); (try clear hk); (try clear hi)))
         go_meet
         case rel => exact ⟨_, ((t874 != t857)), (by first | rfl | (simp; done) | (simp [*]; done)), H', ⟨by have := HJ10.out; first | omega | exact Nat.le_refl _⟩, ⟨by (with_reducible repeat (first | apply Kd.R_alloc | apply Kd.R_drewN | apply Kd.R_drew)); exact Kd.R_mono HO_859004.out (fun _ hk => ⟨hk.1, hk.2.1⟩)⟩, ⟨by (with_reducible repeat (first | apply Kd.R_alloc | apply Kd.R_drewN | apply Kd.R_drew)); exact Kd.R_mono HO_867004.out (fun _ hk => ⟨hk.1.1, hk.1.2⟩)⟩, ⟨by (with_reducible repeat (first | apply Kd.R_alloc | apply Kd.R_drewN | apply Kd.R_drew)); exact Kd.R_mono HO_876004.out (fun _ hk => ⟨hk.1, hk.2.1⟩)⟩, ⟨by (with_reducible repeat (first | refine blk_drewN ?_ _ | refine blk_drew ?_ | refine blk_alloc ?_ _)); exact BK841.out⟩, ⟨by (with_reducible repeat (first | refine blk_drewN ?_ _ | refine blk_drew ?_ | refine blk_alloc ?_ _)); exact BK858.out⟩, ⟨by (with_reducible repeat (first | refine blk_drewN ?_ _ | refine blk_drew ?_ | refine blk_alloc ?_ _)); exact BK866.out⟩, ⟨by (with_reducible repeat (first | refine blk_drewN ?_ _ | refine blk_drew ?_ | refine blk_alloc ?_ _)); exact BK875.out⟩, ⟨by repeat (first | (with_reducible first | exact HB.out | apply below_alloc | apply pw_below_drewN | apply below_drew1 | refine below_set ?_ GE841.out | refine below_set ?_ GE858.out | refine below_set ?_ GE866.out | refine below_set ?_ GE875.out) | exact HB.out)⟩⟩
        ·replace c72 := Bool.eq_false_iff.mpr c72
         subst c72
         have H1 : (laws_FnExactNormalAxis.j1 kj10 t857 true a0_0 a0_1 a0_2 a0_3 l0_4 t850 t851 t852 t853 t854 t867 t868 t869 t870 t871) = some r := by rw [if_neg (show ¬ (false = true) by decide)] at H; exact H
         clear H
         have H := H1
         clear H1
         have H' := Aside0.mk H
         clear H
         have hnb81 := NB875_841.out
         have hnc81 := NB841_875.out
         have hnb82 := NB875_858.out
         have hnc82 := NB858_875.out
         have hnb83 := NB875_866.out
         have hnc83 := NB866_875.out
         have hcz84_0 : w69.cell? ⟨gb875, 0, none⟩ = some (.int .i64 t867) := (blk_cell BK875.out 0).trans rfl
         have hcz84_1 : w69.cell? ⟨gb875, 1, none⟩ = some (.int .i64 t868) := (blk_cell BK875.out 1).trans rfl
         have hcz84_2 : w69.cell? ⟨gb875, 2, none⟩ = some (.int .i64 t869) := (blk_cell BK875.out 2).trans rfl
         have hcz84_3 : w69.cell? ⟨gb875, 3, none⟩ = some (.int .i64 t870) := (blk_cell BK875.out 3).trans rfl
         have hcz84_4 : w69.cell? ⟨gb875, 4, none⟩ = some (.slice Ao36 t871.length co36) := (blk_cell BK875.out 4).trans rfl
         have hfz84_0 := blk_frozen BK875.out 0
         have hfz84_1 := blk_frozen BK875.out 1
         have hfz84_2 := blk_frozen BK875.out 2
         have hfz84_3 := blk_frozen BK875.out 3
         have hfz84_4 := blk_frozen BK875.out 4
         have hnb85 := NB858_841.out
         have hnc85 := NB841_858.out
         have hnb86 := NB858_866.out
         have hnc86 := NB866_858.out
         have hcz87_0 : w69.cell? ⟨gb858, 0, none⟩ = some (.int .i64 t850) := (blk_cell BK858.out 0).trans rfl
         have hcz87_1 : w69.cell? ⟨gb858, 1, none⟩ = some (.int .i64 t851) := (blk_cell BK858.out 1).trans rfl
         have hcz87_2 : w69.cell? ⟨gb858, 2, none⟩ = some (.int .i64 t852) := (blk_cell BK858.out 2).trans rfl
         have hcz87_3 : w69.cell? ⟨gb858, 3, none⟩ = some (.int .i64 t853) := (blk_cell BK858.out 3).trans rfl
         have hcz87_4 : w69.cell? ⟨gb858, 4, none⟩ = some (.slice Ao22 t854.length co22) := (blk_cell BK858.out 4).trans rfl
         have hfz87_0 := blk_frozen BK858.out 0
         have hfz87_1 := blk_frozen BK858.out 1
         have hfz87_2 := blk_frozen BK858.out 2
         have hfz87_3 := blk_frozen BK858.out 3
         have hfz87_4 := blk_frozen BK858.out 4
         go_wp2_with (first | (go_at_call 20; (with_reducible refine (laws_eqAxis.calls kj10 t867 t868 t869 t870 _ _ t871 t850 t851 t852 t853 _ _ t854 false _ ?side1 ?side2 ?side3 ?side4 A71.out).mono ?_); (case side1 => repeat (first | exact (Kd.R_reads' HO_876004.out).2.2 | (with_reducible refine Kd.C_alloc ?_ _) | (with_reducible refine Kd.C_drewN ?_ _) | (with_reducible refine Kd.C_drew ?_))); (case side2 => exact (Kd.R_reads' HO_876004.out).2.1); (case side3 => repeat (first | exact (Kd.R_reads' HO_859004.out).2.2 | (with_reducible refine Kd.C_alloc ?_ _) | (with_reducible refine Kd.C_drewN ?_ _) | (with_reducible refine Kd.C_drew ?_))); (case side4 => exact (Kd.R_reads' HO_859004.out).2.1); rintro e w88 ⟨rfl, hb⟩; have n0_ := Aside0.mk (Kd.R_below (by (with_reducible repeat (first | apply Kd.R_alloc | apply Kd.R_drewN | apply Kd.R_drew)); exact HO_859004.out) hb); have n1_ := Aside0.mk (Kd.R_below (by (with_reducible repeat (first | apply Kd.R_alloc | apply Kd.R_drewN | apply Kd.R_drew)); exact HO_867004.out) hb); have n2_ := Aside0.mk (Kd.R_below (by (with_reducible repeat (first | apply Kd.R_alloc | apply Kd.R_drewN | apply Kd.R_drew)); exact HO_876004.out) hb); have n3_ := Aside0.mk (Kd.R_below (by (with_reducible repeat (first | apply Kd.R_alloc | apply Kd.R_drewN | apply Kd.R_drew)); exact HO883.out) hb); have n4_ := Aside0.mk (blk_below (g := gb841) (o := .cells #[.int .i64 a0_0, .int .i64 a0_1, .int .i64 a0_2, .int .i64 a0_3, .slice A0_4 l0_4.length c0_4] 26 (0, 0)) (by (with_reducible repeat (first | refine blk_drewN ?_ _ | refine blk_drew ?_ | refine blk_alloc ?_ _)); exact BK841.out) hb); have n5_ := Aside0.mk (blk_below (g := gb858) (o := .cells #[.int .i64 t850, .int .i64 t851, .int .i64 t852, .int .i64 t853, .slice Ao22 t854.length co22] 33 (0, 0)) (by (with_reducible repeat (first | refine blk_drewN ?_ _ | refine blk_drew ?_ | refine blk_alloc ?_ _)); exact BK858.out) hb); have n6_ := Aside0.mk (blk_below (g := gb866) (o := .cells #[.int .i64 t859, .int .i64 t860, .int .i64 t861, .int .i64 t862, .slice Ao29 t863.length co29] 33 (0, 0)) (by (with_reducible repeat (first | refine blk_drewN ?_ _ | refine blk_drew ?_ | refine blk_alloc ?_ _)); exact BK866.out) hb); have n7_ := Aside0.mk (blk_below (g := gb875) (o := .cells #[.int .i64 t867, .int .i64 t868, .int .i64 t869, .int .i64 t870, .slice Ao36 t871.length co36] 33 (0, 0)) (by (with_reducible repeat (first | refine blk_drewN ?_ _ | refine blk_drew ?_ | refine blk_alloc ?_ _)); exact BK875.out) hb); have n8_ := Aside0.mk (below_step (by repeat (first | (with_reducible first | exact HB.out | apply below_alloc | apply pw_below_drewN | apply below_drew1 | refine below_set ?_ GE841.out | refine below_set ?_ GE858.out | refine below_set ?_ GE866.out | refine below_set ?_ GE875.out) | exact HB.out)) hb); clear HO_859004; clear HO_867004; clear HO_876004; clear HO883; clear BK841; clear BK858; clear BK866; clear BK875; clear HB; have HO_859004 := n0_; have HO_867004 := n1_; have HO_876004 := n2_; have HO883 := n3_; have BK841 := n4_; have BK858 := n5_; have BK866 := n6_; have BK875 := n7_; have HB := n8_; clear n0_ n1_ n2_ n3_ n4_ n5_ n6_ n7_ n8_; (try clear hb); (try clear hb2); (try clear hk); (try clear hi)))
         go_meet
         case rel => exact ⟨_, (true), (by first | rfl | (simp; done) | (simp [*]; done)), H', ⟨by have := HJ10.out; first | omega | exact Nat.le_refl _⟩, ⟨by (with_reducible repeat (first | apply Kd.R_alloc | apply Kd.R_drewN | apply Kd.R_drew)); exact Kd.R_mono HO_859004.out (fun _ hk => ⟨hk.1, hk.2.1⟩)⟩, ⟨by (with_reducible repeat (first | apply Kd.R_alloc | apply Kd.R_drewN | apply Kd.R_drew)); exact Kd.R_mono HO_867004.out (fun _ hk => ⟨hk.1.1, hk.1.2⟩)⟩, ⟨by (with_reducible repeat (first | apply Kd.R_alloc | apply Kd.R_drewN | apply Kd.R_drew)); exact Kd.R_mono HO_876004.out (fun _ hk => ⟨hk.1, hk.2.1⟩)⟩, ⟨by (with_reducible repeat (first | refine blk_drewN ?_ _ | refine blk_drew ?_ | refine blk_alloc ?_ _)); exact BK841.out⟩, ⟨by (with_reducible repeat (first | refine blk_drewN ?_ _ | refine blk_drew ?_ | refine blk_alloc ?_ _)); exact BK858.out⟩, ⟨by (with_reducible repeat (first | refine blk_drewN ?_ _ | refine blk_drew ?_ | refine blk_alloc ?_ _)); exact BK866.out⟩, ⟨by (with_reducible repeat (first | refine blk_drewN ?_ _ | refine blk_drew ?_ | refine blk_alloc ?_ _)); exact BK875.out⟩, ⟨by repeat (first | (with_reducible first | exact HB.out | apply below_alloc | apply pw_below_drewN | apply below_drew1 | refine below_set ?_ GE841.out | refine below_set ?_ GE858.out | refine below_set ?_ GE866.out | refine below_set ?_ GE875.out) | exact HB.out)⟩⟩
      case rest =>
       clear HC60
       try clear c1
       try clear c2
       try clear p2
       try clear c3
       try clear c3b0
       try clear c4
       try clear c5
       try clear c6
       try clear c7
       try clear c8
       try clear c9
       try clear c15
       try clear c17
       try clear c20
       try clear c26
       try clear c27
       try clear c32
       try clear c33
       try clear c34
       try clear c36
       try clear c38
       try clear c39
       try clear c40
       try clear c41
       try clear c43
       try clear c44
       try clear c47
       try clear c48
       try clear c49
       try clear c51
       try clear c52
       try clear c55
       try clear c58
       try clear c65
       try clear c66
       try clear c67
       try clear c70
       try clear c70b0
       try clear c72
       try clear c73
       try clear c74
       try clear c75
       try clear c77
       try clear c78
       try clear c81
       try clear c82
       try clear c83
       try clear c85
       try clear c86
       try clear hcz13_0
       try clear hcz13_1
       try clear hcz13_2
       try clear hcz13_3
       try clear hcz13_4
       try clear hcz15_0
       try clear hcz15_1
       try clear hcz15_2
       try clear hcz15_3
       try clear hcz15_4
       try clear hcz21_0
       try clear hcz21_1
       try clear hcz21_2
       try clear hcz21_3
       try clear hcz21_4
       try clear hcz23_0
       try clear hcz23_1
       try clear hcz23_2
       try clear hcz23_3
       try clear hcz23_4
       try clear hcz28_0
       try clear hcz28_1
       try clear hcz28_2
       try clear hcz28_3
       try clear hcz28_4
       try clear hcz35_0
       try clear hcz35_1
       try clear hcz35_2
       try clear hcz35_3
       try clear hcz35_4
       try clear hcz42_0
       try clear hcz42_1
       try clear hcz42_2
       try clear hcz42_3
       try clear hcz42_4
       try clear hcz45_0
       try clear hcz45_1
       try clear hcz45_2
       try clear hcz45_3
       try clear hcz45_4
       try clear hcz50_0
       try clear hcz50_1
       try clear hcz50_2
       try clear hcz50_3
       try clear hcz50_4
       try clear hcz53_0
       try clear hcz53_1
       try clear hcz53_2
       try clear hcz53_3
       try clear hcz53_4
       try clear hcz5_0
       try clear hcz5_1
       try clear hcz5_2
       try clear hcz5_3
       try clear hcz5_4
       try clear hcz68_0
       try clear hcz68_1
       try clear hcz68_2
       try clear hcz68_3
       try clear hcz68_4
       try clear hcz76_0
       try clear hcz76_1
       try clear hcz76_2
       try clear hcz76_3
       try clear hcz76_4
       try clear hcz79_0
       try clear hcz79_1
       try clear hcz79_2
       try clear hcz79_3
       try clear hcz79_4
       try clear hcz84_0
       try clear hcz84_1
       try clear hcz84_2
       try clear hcz84_3
       try clear hcz84_4
       try clear hcz87_0
       try clear hcz87_1
       try clear hcz87_2
       try clear hcz87_3
       try clear hcz87_4
       try clear hfz13_0
       try clear hfz13_1
       try clear hfz13_2
       try clear hfz13_3
       try clear hfz13_4
       try clear hfz15_0
       try clear hfz15_1
       try clear hfz15_2
       try clear hfz15_3
       try clear hfz15_4
       try clear hfz21_0
       try clear hfz21_1
       try clear hfz21_2
       try clear hfz21_3
       try clear hfz21_4
       try clear hfz23_0
       try clear hfz23_1
       try clear hfz23_2
       try clear hfz23_3
       try clear hfz23_4
       try clear hfz28_0
       try clear hfz28_1
       try clear hfz28_2
       try clear hfz28_3
       try clear hfz28_4
       try clear hfz35_0
       try clear hfz35_1
       try clear hfz35_2
       try clear hfz35_3
       try clear hfz35_4
       try clear hfz42_0
       try clear hfz42_1
       try clear hfz42_2
       try clear hfz42_3
       try clear hfz42_4
       try clear hfz45_0
       try clear hfz45_1
       try clear hfz45_2
       try clear hfz45_3
       try clear hfz45_4
       try clear hfz50_0
       try clear hfz50_1
       try clear hfz50_2
       try clear hfz50_3
       try clear hfz50_4
       try clear hfz53_0
       try clear hfz53_1
       try clear hfz53_2
       try clear hfz53_3
       try clear hfz53_4
       try clear hfz5_0
       try clear hfz5_1
       try clear hfz5_2
       try clear hfz5_3
       try clear hfz5_4
       try clear hfz68_0
       try clear hfz68_1
       try clear hfz68_2
       try clear hfz68_3
       try clear hfz68_4
       try clear hfz76_0
       try clear hfz76_1
       try clear hfz76_2
       try clear hfz76_3
       try clear hfz76_4
       try clear hfz79_0
       try clear hfz79_1
       try clear hfz79_2
       try clear hfz79_3
       try clear hfz79_4
       try clear hfz84_0
       try clear hfz84_1
       try clear hfz84_2
       try clear hfz84_3
       try clear hfz84_4
       try clear hfz87_0
       try clear hfz87_1
       try clear hfz87_2
       try clear hfz87_3
       try clear hfz87_4
       try clear p2
       obtain ⟨kq, x61_59, rfl, HA, HJ59, HO_859004, HO_867004, HO_876004, BK841, BK858, BK866, BK875, HB⟩ := hcut
       have hl867004_59 := (Kd.R_reads' HO_867004.out).1
       rw [hl867004_59] at HO_867004
       (try simp only [hl867004_59])
       (try simp only [hl867004_59] at BK841)
       (try simp only [hl867004_59] at BK858)
       (try simp only [hl867004_59] at BK866)
       (try simp only [hl867004_59] at BK875)
       (try simp only [hl867004_59] at HO_859004)
       (try simp only [hl867004_59] at HO_876004)
       cases kq with
       | zero => exact absurd HA.out (by simp [laws_FnExactNormalAxis.j1])
       | succ kj59 =>
        have H := HA.out
        clear HA
        simp only [laws_FnExactNormalAxis.j1] at H
        by_cases c89 : x61_59 = true
        ·subst c89
         have H1 : (some false) = some r := by rw [if_pos rfl] at H; exact H
         clear H
         have H := H1
         clear H1
         obtain rfl := Option.some.inj H
         go_wp2
         go_ret
         exact ⟨by first | rfl | (simp [errW_none, errW_some] <;> rfl) | (simp [*, errW_none, errW_some] <;> rfl), by repeat (first | (with_reducible first | exact HB.out | apply below_alloc | apply pw_below_drewN | apply below_drew1 | refine below_set ?_ GE841.out | refine below_set ?_ GE858.out | refine below_set ?_ GE866.out | refine below_set ?_ GE875.out) | exact HB.out)⟩
        ·replace c89 := Bool.eq_false_iff.mpr c89
         subst c89
         have H1 : ((laws_markAxis.f kj59 t867 t868 t869 t870 t871 1).bind fun bt888 => ((laws_heldAxis.f kj59 t867 t868 t869 t870 bt888.2 1).bind fun t890 => (if t890 < 0 then (some false) else (if t890 = bt888.1 then ((laws_toAxis.f kj59 a0_0 a0_1 a0_2 a0_3 l0_4).bind fun bt891 => ((impl_NormalAxis.f kj59 bt891.1 bt891.2.1 bt891.2.2.1 bt891.2.2.2.1 bt891.2.2.2.2).bind fun bt898 => ((laws_eqAxis.f kj59 bt898.1 bt898.2.1 bt898.2.2.1 bt898.2.2.2.1 bt898.2.2.2.2.1 t850 t851 t852 t853 t854).bind fun t907 => (if t907 = true then (laws_FnExactNormalAxis.j2 kj59 bt888.1 (bt898.2.2.2.2.2 != t857) t867 t868 t869 t870 bt888.2) else (laws_FnExactNormalAxis.j2 kj59 bt888.1 true t867 t868 t869 t870 bt888.2))))) else (some false))))) = some r := by rw [if_neg (show ¬ (false = true) by decide)] at H; exact H
         clear H
         have H := H1
         clear H1
         replace H := Option.bind_eq_some_iff.mp H
         obtain ⟨⟨t888, t889⟩, A900, H⟩ := H
         replace H : ((laws_heldAxis.f kj59 t867 t868 t869 t870 t889 1).bind fun t890 => (if t890 < 0 then (some false) else (if t890 = t888 then ((laws_toAxis.f kj59 a0_0 a0_1 a0_2 a0_3 l0_4).bind fun bt891 => ((impl_NormalAxis.f kj59 bt891.1 bt891.2.1 bt891.2.2.1 bt891.2.2.2.1 bt891.2.2.2.2).bind fun bt898 => ((laws_eqAxis.f kj59 bt898.1 bt898.2.1 bt898.2.2.1 bt898.2.2.2.1 bt898.2.2.2.2.1 t850 t851 t852 t853 t854).bind fun t907 => (if t907 = true then (laws_FnExactNormalAxis.j2 kj59 t888 (bt898.2.2.2.2.2 != t857) t867 t868 t869 t870 t889) else (laws_FnExactNormalAxis.j2 kj59 t888 true t867 t868 t869 t870 t889))))) else (some false)))) = some r := H
         have A90 := Aside0.mk A900
         clear A900
         replace H := Option.bind_eq_some_iff.mp H
         obtain ⟨t890, A910, H⟩ := H
         replace H : (if t890 < 0 then (some false) else (if t890 = t888 then ((laws_toAxis.f kj59 a0_0 a0_1 a0_2 a0_3 l0_4).bind fun bt891 => ((impl_NormalAxis.f kj59 bt891.1 bt891.2.1 bt891.2.2.1 bt891.2.2.2.1 bt891.2.2.2.2).bind fun bt898 => ((laws_eqAxis.f kj59 bt898.1 bt898.2.1 bt898.2.2.1 bt898.2.2.2.1 bt898.2.2.2.2.1 t850 t851 t852 t853 t854).bind fun t907 => (if t907 = true then (laws_FnExactNormalAxis.j2 kj59 t888 (bt898.2.2.2.2.2 != t857) t867 t868 t869 t870 t889) else (laws_FnExactNormalAxis.j2 kj59 t888 true t867 t868 t869 t870 t889))))) else (some false))) = some r := H
         have A91 := Aside0.mk A910
         clear A910
         by_cases c92 : t890 < 0
         ·rw [if_pos c92] at H
          have c92b0 : decide (t890 < 0) = true := decide_eq_true c92
          clear c92
          obtain rfl := Option.some.inj H
          have hnb93 := NB875_841.out
          have hnc93 := NB841_875.out
          have hnb94 := NB875_858.out
          have hnc94 := NB858_875.out
          have hnb95 := NB875_866.out
          have hnc95 := NB866_875.out
          have hcz96_0 : wc.cell? ⟨gb875, 0, none⟩ = some (.int .i64 t867) := (blk_cell BK875.out 0).trans rfl
          have hcz96_1 : wc.cell? ⟨gb875, 1, none⟩ = some (.int .i64 t868) := (blk_cell BK875.out 1).trans rfl
          have hcz96_2 : wc.cell? ⟨gb875, 2, none⟩ = some (.int .i64 t869) := (blk_cell BK875.out 2).trans rfl
          have hcz96_3 : wc.cell? ⟨gb875, 3, none⟩ = some (.int .i64 t870) := (blk_cell BK875.out 3).trans rfl
          have hcz96_4 : wc.cell? ⟨gb875, 4, none⟩ = some (.slice Ao36 t871.length co36) := (blk_cell BK875.out 4).trans rfl
          have hfz96_0 := blk_frozen BK875.out 0
          have hfz96_1 := blk_frozen BK875.out 1
          have hfz96_2 := blk_frozen BK875.out 2
          have hfz96_3 := blk_frozen BK875.out 3
          have hfz96_4 := blk_frozen BK875.out 4
          go_wp2_with (first | ((with_reducible refine gate_callee (f := 36) rfl ?_); refine goesL_ (some 64) rfl rfl Try.func36 (by kernel_rfl) rfl #[.agg #[.int .i64 t867, .int .i64 t868, .int .i64 t869, .int .i64 t870, .slice Ao36 t871.length co36], .int .i64 1] rfl (by (try simp only [List.map_toArray, List.map_cons, List.map_nil]); first | done | rfl | (simp only [List.length_drop, List.length_take]; rfl)) ?_; (with_reducible refine (laws_markAxis.calls kj59 t867 t868 t869 t870 (fun k_ => some k_ = (.slice Ao36 t871.length co36 : Value).ownBlock) (.slice Ao36 t871.length co36) t871 1 t888 t889 w _ ?side1 ?side2 A90.out).mono ?_); (case side1 => repeat (first | (with_reducible first | exact HB.out | apply below_alloc | apply pw_below_drewN | apply below_drew1 | refine below_set ?_ GE841.out | refine below_set ?_ GE858.out | refine below_set ?_ GE866.out | refine below_set ?_ GE875.out) | exact HB.out)); (case side2 => exact Kd.R_tight rfl HO_876004.out); rintro e w97 ⟨rfl, hy0, hb, hkp⟩; refine ⟨_, rfl, ?_⟩; have n0_ := Aside0.mk (Kd.R_mono (ok' := fun k_ => some k_ ≠ (.slice Ao29 t886.length co29 : Value).ownBlock ∧ some k_ ≠ (.slice Ao36 t871.length co36 : Value).ownBlock) (Kd.R_keptB (HO_859004.out) hkp (fun k_ hk_ hs_ => (hk_.2) hs_)) (fun k_ hk_ => ⟨hk_.1.1, hk_.1.2⟩)); have n1_ := Aside0.mk (Kd.R_mono (ok' := fun k_ => some k_ ≠ (.slice Ao22 t854.length co22 : Value).ownBlock ∧ some k_ ≠ (.slice Ao36 t871.length co36 : Value).ownBlock) (Kd.R_keptB (HO_867004.out) hkp (fun k_ hk_ hs_ => (hk_.2) hs_)) (fun k_ hk_ => ⟨hk_.1.1, hk_.1.2⟩)); have n2_ := Aside0.mk (Kd.R_reok rfl hy0 (fun k_ e_ => HO_876004.out.1 k_ e_)); have n3_ := Aside0.mk (blk_kept (by (with_reducible repeat (first | refine blk_drewN ?_ _ | refine blk_drew ?_ | refine blk_alloc ?_ _)); exact BK841.out) hkp (fun hs_ => (fun e_ => (Kd.R_ne HO_876004.out BK841.out (by decide)) e_) hs_)); have n4_ := Aside0.mk (blk_kept (by (with_reducible repeat (first | refine blk_drewN ?_ _ | refine blk_drew ?_ | refine blk_alloc ?_ _)); exact BK858.out) hkp (fun hs_ => (fun e_ => (Kd.R_ne HO_876004.out BK858.out (by decide)) e_) hs_)); have n5_ := Aside0.mk (blk_kept (by (with_reducible repeat (first | refine blk_drewN ?_ _ | refine blk_drew ?_ | refine blk_alloc ?_ _)); exact BK866.out) hkp (fun hs_ => (fun e_ => (Kd.R_ne HO_876004.out BK866.out (by decide)) e_) hs_)); have n6_ := Aside0.mk (blk_kept (by (with_reducible repeat (first | refine blk_drewN ?_ _ | refine blk_drew ?_ | refine blk_alloc ?_ _)); exact BK875.out) hkp (fun hs_ => (fun e_ => (Kd.R_ne HO_876004.out BK875.out (by decide)) e_) hs_)); have n7_ := Aside0.mk (hb); clear HO_859004; clear HO_867004; clear HO_876004; clear BK841; clear BK858; clear BK866; clear BK875; clear HB; have HO_859004 := n0_; have HO_867004 := n1_; have HO_876004 := n2_; have BK841 := n3_; have BK858 := n4_; have BK866 := n5_; have BK875 := n6_; have HB := n7_; clear n0_ n1_ n2_ n3_ n4_ n5_ n6_ n7_; (try clear hb); (try clear hkp); (try clear hy0); have hcz98_0 : w97.cell? ⟨gb875, 0, none⟩ = some (.int .i64 t867) := (blk_cell BK875.out 0).trans rfl; have hcz98_1 : w97.cell? ⟨gb875, 1, none⟩ = some (.int .i64 t868) := (blk_cell BK875.out 1).trans rfl; have hcz98_2 : w97.cell? ⟨gb875, 2, none⟩ = some (.int .i64 t869) := (blk_cell BK875.out 2).trans rfl; have hcz98_3 : w97.cell? ⟨gb875, 3, none⟩ = some (.int .i64 t870) := (blk_cell BK875.out 3).trans rfl; have hcz98_4 : w97.cell? ⟨gb875, 4, none⟩ = some (.slice Ao36 t871.length co36) := (blk_cell BK875.out 4).trans rfl; have hfz98_0 := blk_frozen BK875.out 0; have hfz98_1 := blk_frozen BK875.out 1; have hfz98_2 := blk_frozen BK875.out 2; have hfz98_3 := blk_frozen BK875.out 3; have hfz98_4 := blk_frozen BK875.out 4) | ((with_reducible refine gate_callee (f := 37) rfl ?_); refine goesL_ (some 67) rfl rfl Try.func37 (by kernel_rfl) rfl #[.agg #[.int .i64 t867, .int .i64 t868, .int .i64 t869, .int .i64 t870, .slice Ao36 t889.length co36], .int .i64 1] rfl (by (try simp only [List.map_toArray, List.map_cons, List.map_nil]); first | done | (rw [show t889.length = t871.length from (Kd.R_reads' HO_876004.out).1.symm] <;> rfl) | rfl | (simp only [List.length_drop, List.length_take]; rfl)) ?_; (with_reducible refine (laws_heldAxis.calls kj59 t867 t868 t869 t870 _ _ t889 1 t890 _ ?side1 ?side2 A91.out).mono ?_); (case side1 => repeat (first | exact (Kd.R_reads' HO_876004.out).2.2 | (with_reducible refine Kd.C_alloc ?_ _) | (with_reducible refine Kd.C_drewN ?_ _) | (with_reducible refine Kd.C_drew ?_))); (case side2 => rw [show t889.length = t871.length from (Kd.R_reads' HO_876004.out).1.symm]; exact (Kd.R_reads' HO_876004.out).2.1); rintro e w99 ⟨rfl, hb⟩; refine ⟨_, rfl, ?_⟩; have n0_ := Aside0.mk (Kd.R_below (by (with_reducible repeat (first | apply Kd.R_alloc | apply Kd.R_drewN | apply Kd.R_drew)); exact HO_859004.out) hb); have n1_ := Aside0.mk (Kd.R_below (by (with_reducible repeat (first | apply Kd.R_alloc | apply Kd.R_drewN | apply Kd.R_drew)); exact HO_867004.out) hb); have n2_ := Aside0.mk (Kd.R_below (by (with_reducible repeat (first | apply Kd.R_alloc | apply Kd.R_drewN | apply Kd.R_drew)); exact HO_876004.out) hb); have n3_ := Aside0.mk (blk_below (g := gb841) (o := .cells #[.int .i64 a0_0, .int .i64 a0_1, .int .i64 a0_2, .int .i64 a0_3, .slice A0_4 l0_4.length c0_4] 26 (0, 0)) (by (with_reducible repeat (first | refine blk_drewN ?_ _ | refine blk_drew ?_ | refine blk_alloc ?_ _)); exact BK841.out) hb); have n4_ := Aside0.mk (blk_below (g := gb858) (o := .cells #[.int .i64 t850, .int .i64 t851, .int .i64 t852, .int .i64 t853, .slice Ao22 t854.length co22] 33 (0, 0)) (by (with_reducible repeat (first | refine blk_drewN ?_ _ | refine blk_drew ?_ | refine blk_alloc ?_ _)); exact BK858.out) hb); have n5_ := Aside0.mk (blk_below (g := gb866) (o := .cells #[.int .i64 t859, .int .i64 t860, .int .i64 t861, .int .i64 t862, .slice Ao29 t886.length co29] 33 (0, 0)) (by (with_reducible repeat (first | refine blk_drewN ?_ _ | refine blk_drew ?_ | refine blk_alloc ?_ _)); exact BK866.out) hb); have n6_ := Aside0.mk (blk_below (g := gb875) (o := .cells #[.int .i64 t867, .int .i64 t868, .int .i64 t869, .int .i64 t870, .slice Ao36 t871.length co36] 33 (0, 0)) (by (with_reducible repeat (first | refine blk_drewN ?_ _ | refine blk_drew ?_ | refine blk_alloc ?_ _)); exact BK875.out) hb); have n7_ := Aside0.mk (below_step (by repeat (first | (with_reducible first | exact HB.out | apply below_alloc | apply pw_below_drewN | apply below_drew1 | refine below_set ?_ GE841.out | refine below_set ?_ GE858.out | refine below_set ?_ GE866.out | refine below_set ?_ GE875.out) | exact HB.out)) hb); clear HO_859004; clear HO_867004; clear HO_876004; clear BK841; clear BK858; clear BK866; clear BK875; clear HB; have HO_859004 := n0_; have HO_867004 := n1_; have HO_876004 := n2_; have BK841 := n3_; have BK858 := n4_; have BK866 := n5_; have BK875 := n6_; have HB := n7_; clear n0_ n1_ n2_ n3_ n4_ n5_ n6_ n7_; (try clear hb); (try clear hb2); (try clear hk); (try clear hi)))
          go_ret
          exact ⟨by first | rfl | (simp [errW_none, errW_some] <;> rfl) | (simp [*, errW_none, errW_some] <;> rfl), by repeat (first | (with_reducible first | exact HB.out | apply below_alloc | apply pw_below_drewN | apply below_drew1 | refine below_set ?_ GE841.out | refine below_set ?_ GE858.out | refine below_set ?_ GE866.out | refine below_set ?_ GE875.out) | exact HB.out)⟩
         ·rw [if_neg c92] at H
          have c92b0 : decide (t890 < 0) = false := decide_eq_false c92
          clear c92
          by_cases c100 : t890 = t888
          ·rw [if_pos c100] at H
           have c100b0 : (t890 == t888) = true := beq_iff_eq.mpr c100
           have c100b1 : (t890 != t888) = false := bne_eq_false_iff_eq.mpr c100
           clear c100
           replace H := Option.bind_eq_some_iff.mp H
           obtain ⟨⟨t891, t892, t893, t894, t895⟩, A1010, H⟩ := H
           replace H : ((impl_NormalAxis.f kj59 t891 t892 t893 t894 t895).bind fun bt898 => ((laws_eqAxis.f kj59 bt898.1 bt898.2.1 bt898.2.2.1 bt898.2.2.2.1 bt898.2.2.2.2.1 t850 t851 t852 t853 t854).bind fun t907 => (if t907 = true then (laws_FnExactNormalAxis.j2 kj59 t888 (bt898.2.2.2.2.2 != t857) t867 t868 t869 t870 t889) else (laws_FnExactNormalAxis.j2 kj59 t888 true t867 t868 t869 t870 t889)))) = some r := H
           have A101 := Aside0.mk A1010
           clear A1010
           replace H := Option.bind_eq_some_iff.mp H
           obtain ⟨⟨t898, t899, t900, t901, t902, t905⟩, A1020, H⟩ := H
           replace H : ((laws_eqAxis.f kj59 t898 t899 t900 t901 t902 t850 t851 t852 t853 t854).bind fun t907 => (if t907 = true then (laws_FnExactNormalAxis.j2 kj59 t888 (t905 != t857) t867 t868 t869 t870 t889) else (laws_FnExactNormalAxis.j2 kj59 t888 true t867 t868 t869 t870 t889))) = some r := H
           have A102 := Aside0.mk A1020
           clear A1020
           have HC103 := Aside0.mk H
           clear H
           have hnb104 := NB875_841.out
           have hnc104 := NB841_875.out
           have hnb105 := NB875_858.out
           have hnc105 := NB858_875.out
           have hnb106 := NB875_866.out
           have hnc106 := NB866_875.out
           have hcz107_0 : wc.cell? ⟨gb875, 0, none⟩ = some (.int .i64 t867) := (blk_cell BK875.out 0).trans rfl
           have hcz107_1 : wc.cell? ⟨gb875, 1, none⟩ = some (.int .i64 t868) := (blk_cell BK875.out 1).trans rfl
           have hcz107_2 : wc.cell? ⟨gb875, 2, none⟩ = some (.int .i64 t869) := (blk_cell BK875.out 2).trans rfl
           have hcz107_3 : wc.cell? ⟨gb875, 3, none⟩ = some (.int .i64 t870) := (blk_cell BK875.out 3).trans rfl
           have hcz107_4 : wc.cell? ⟨gb875, 4, none⟩ = some (.slice Ao36 t871.length co36) := (blk_cell BK875.out 4).trans rfl
           have hfz107_0 := blk_frozen BK875.out 0
           have hfz107_1 := blk_frozen BK875.out 1
           have hfz107_2 := blk_frozen BK875.out 2
           have hfz107_3 := blk_frozen BK875.out 3
           have hfz107_4 := blk_frozen BK875.out 4
           go_upto_region 25 with (first | ((with_reducible refine gate_callee (f := 36) rfl ?_); refine goesL_ (some 64) rfl rfl Try.func36 (by kernel_rfl) rfl #[.agg #[.int .i64 t867, .int .i64 t868, .int .i64 t869, .int .i64 t870, .slice Ao36 t871.length co36], .int .i64 1] rfl (by (try simp only [List.map_toArray, List.map_cons, List.map_nil]); first | done | rfl | (simp only [List.length_drop, List.length_take]; rfl)) ?_; (with_reducible refine (laws_markAxis.calls kj59 t867 t868 t869 t870 (fun k_ => some k_ = (.slice Ao36 t871.length co36 : Value).ownBlock) (.slice Ao36 t871.length co36) t871 1 t888 t889 w _ ?side1 ?side2 A90.out).mono ?_); (case side1 => repeat (first | (with_reducible first | exact HB.out | apply below_alloc | apply pw_below_drewN | apply below_drew1 | refine below_set ?_ GE841.out | refine below_set ?_ GE858.out | refine below_set ?_ GE866.out | refine below_set ?_ GE875.out) | exact HB.out)); (case side2 => exact Kd.R_tight rfl HO_876004.out); rintro e w108 ⟨rfl, hy0, hb, hkp⟩; refine ⟨_, rfl, ?_⟩; have n0_ := Aside0.mk (Kd.R_mono (ok' := fun k_ => some k_ ≠ (.slice Ao29 t886.length co29 : Value).ownBlock ∧ some k_ ≠ (.slice Ao36 t871.length co36 : Value).ownBlock) (Kd.R_keptB (HO_859004.out) hkp (fun k_ hk_ hs_ => (hk_.2) hs_)) (fun k_ hk_ => ⟨hk_.1.1, hk_.1.2⟩)); have n1_ := Aside0.mk (Kd.R_mono (ok' := fun k_ => some k_ ≠ (.slice Ao22 t854.length co22 : Value).ownBlock ∧ some k_ ≠ (.slice Ao36 t871.length co36 : Value).ownBlock) (Kd.R_keptB (HO_867004.out) hkp (fun k_ hk_ hs_ => (hk_.2) hs_)) (fun k_ hk_ => ⟨hk_.1.1, hk_.1.2⟩)); have n2_ := Aside0.mk (Kd.R_reok rfl hy0 (fun k_ e_ => HO_876004.out.1 k_ e_)); have n3_ := Aside0.mk (blk_kept (by (with_reducible repeat (first | refine blk_drewN ?_ _ | refine blk_drew ?_ | refine blk_alloc ?_ _)); exact BK841.out) hkp (fun hs_ => (fun e_ => (Kd.R_ne HO_876004.out BK841.out (by decide)) e_) hs_)); have n4_ := Aside0.mk (blk_kept (by (with_reducible repeat (first | refine blk_drewN ?_ _ | refine blk_drew ?_ | refine blk_alloc ?_ _)); exact BK858.out) hkp (fun hs_ => (fun e_ => (Kd.R_ne HO_876004.out BK858.out (by decide)) e_) hs_)); have n5_ := Aside0.mk (blk_kept (by (with_reducible repeat (first | refine blk_drewN ?_ _ | refine blk_drew ?_ | refine blk_alloc ?_ _)); exact BK866.out) hkp (fun hs_ => (fun e_ => (Kd.R_ne HO_876004.out BK866.out (by decide)) e_) hs_)); have n6_ := Aside0.mk (blk_kept (by (with_reducible repeat (first | refine blk_drewN ?_ _ | refine blk_drew ?_ | refine blk_alloc ?_ _)); exact BK875.out) hkp (fun hs_ => (fun e_ => (Kd.R_ne HO_876004.out BK875.out (by decide)) e_) hs_)); have n7_ := Aside0.mk (hb); clear HO_859004; clear HO_867004; clear HO_876004; clear BK841; clear BK858; clear BK866; clear BK875; clear HB; have HO_859004 := n0_; have HO_867004 := n1_; have HO_876004 := n2_; have BK841 := n3_; have BK858 := n4_; have BK866 := n5_; have BK875 := n6_; have HB := n7_; clear n0_ n1_ n2_ n3_ n4_ n5_ n6_ n7_; (try clear hb); (try clear hkp); (try clear hy0); have hcz109_0 : w108.cell? ⟨gb875, 0, none⟩ = some (.int .i64 t867) := (blk_cell BK875.out 0).trans rfl; have hcz109_1 : w108.cell? ⟨gb875, 1, none⟩ = some (.int .i64 t868) := (blk_cell BK875.out 1).trans rfl; have hcz109_2 : w108.cell? ⟨gb875, 2, none⟩ = some (.int .i64 t869) := (blk_cell BK875.out 2).trans rfl; have hcz109_3 : w108.cell? ⟨gb875, 3, none⟩ = some (.int .i64 t870) := (blk_cell BK875.out 3).trans rfl; have hcz109_4 : w108.cell? ⟨gb875, 4, none⟩ = some (.slice Ao36 t871.length co36) := (blk_cell BK875.out 4).trans rfl; have hfz109_0 := blk_frozen BK875.out 0; have hfz109_1 := blk_frozen BK875.out 1; have hfz109_2 := blk_frozen BK875.out 2; have hfz109_3 := blk_frozen BK875.out 3; have hfz109_4 := blk_frozen BK875.out 4) | ((with_reducible refine gate_callee (f := 37) rfl ?_); refine goesL_ (some 67) rfl rfl Try.func37 (by kernel_rfl) rfl #[.agg #[.int .i64 t867, .int .i64 t868, .int .i64 t869, .int .i64 t870, .slice Ao36 t889.length co36], .int .i64 1] rfl (by (try simp only [List.map_toArray, List.map_cons, List.map_nil]); first | done | (rw [show t889.length = t871.length from (Kd.R_reads' HO_876004.out).1.symm] <;> rfl) | rfl | (simp only [List.length_drop, List.length_take]; rfl)) ?_; (with_reducible refine (laws_heldAxis.calls kj59 t867 t868 t869 t870 _ _ t889 1 t890 _ ?side1 ?side2 A91.out).mono ?_); (case side1 => repeat (first | exact (Kd.R_reads' HO_876004.out).2.2 | (with_reducible refine Kd.C_alloc ?_ _) | (with_reducible refine Kd.C_drewN ?_ _) | (with_reducible refine Kd.C_drew ?_))); (case side2 => rw [show t889.length = t871.length from (Kd.R_reads' HO_876004.out).1.symm]; exact (Kd.R_reads' HO_876004.out).2.1); rintro e w110 ⟨rfl, hb⟩; refine ⟨_, rfl, ?_⟩; have n0_ := Aside0.mk (Kd.R_below (by (with_reducible repeat (first | apply Kd.R_alloc | apply Kd.R_drewN | apply Kd.R_drew)); exact HO_859004.out) hb); have n1_ := Aside0.mk (Kd.R_below (by (with_reducible repeat (first | apply Kd.R_alloc | apply Kd.R_drewN | apply Kd.R_drew)); exact HO_867004.out) hb); have n2_ := Aside0.mk (Kd.R_below (by (with_reducible repeat (first | apply Kd.R_alloc | apply Kd.R_drewN | apply Kd.R_drew)); exact HO_876004.out) hb); have n3_ := Aside0.mk (blk_below (g := gb841) (o := .cells #[.int .i64 a0_0, .int .i64 a0_1, .int .i64 a0_2, .int .i64 a0_3, .slice A0_4 l0_4.length c0_4] 26 (0, 0)) (by (with_reducible repeat (first | refine blk_drewN ?_ _ | refine blk_drew ?_ | refine blk_alloc ?_ _)); exact BK841.out) hb); have n4_ := Aside0.mk (blk_below (g := gb858) (o := .cells #[.int .i64 t850, .int .i64 t851, .int .i64 t852, .int .i64 t853, .slice Ao22 t854.length co22] 33 (0, 0)) (by (with_reducible repeat (first | refine blk_drewN ?_ _ | refine blk_drew ?_ | refine blk_alloc ?_ _)); exact BK858.out) hb); have n5_ := Aside0.mk (blk_below (g := gb866) (o := .cells #[.int .i64 t859, .int .i64 t860, .int .i64 t861, .int .i64 t862, .slice Ao29 t886.length co29] 33 (0, 0)) (by (with_reducible repeat (first | refine blk_drewN ?_ _ | refine blk_drew ?_ | refine blk_alloc ?_ _)); exact BK866.out) hb); have n6_ := Aside0.mk (blk_below (g := gb875) (o := .cells #[.int .i64 t867, .int .i64 t868, .int .i64 t869, .int .i64 t870, .slice Ao36 t871.length co36] 33 (0, 0)) (by (with_reducible repeat (first | refine blk_drewN ?_ _ | refine blk_drew ?_ | refine blk_alloc ?_ _)); exact BK875.out) hb); have n7_ := Aside0.mk (below_step (by repeat (first | (with_reducible first | exact HB.out | apply below_alloc | apply pw_below_drewN | apply below_drew1 | refine below_set ?_ GE841.out | refine below_set ?_ GE858.out | refine below_set ?_ GE866.out | refine below_set ?_ GE875.out) | exact HB.out)) hb); clear HO_859004; clear HO_867004; clear HO_876004; clear BK841; clear BK858; clear BK866; clear BK875; clear HB; have HO_859004 := n0_; have HO_867004 := n1_; have HO_876004 := n2_; have BK841 := n3_; have BK858 := n4_; have BK866 := n5_; have BK875 := n6_; have HB := n7_; clear n0_ n1_ n2_ n3_ n4_ n5_ n6_ n7_; (try clear hb); (try clear hb2); (try clear hk); (try clear hi); have hnb111 := NB841_858.out; have hnc111 := NB858_841.out; have hnb112 := NB841_866.out; have hnc112 := NB866_841.out; have hcz113_0 : w110.cell? ⟨gb841, 0, none⟩ = some (.int .i64 a0_0) := (blk_cell BK841.out 0).trans rfl; have hcz113_1 : w110.cell? ⟨gb841, 1, none⟩ = some (.int .i64 a0_1) := (blk_cell BK841.out 1).trans rfl; have hcz113_2 : w110.cell? ⟨gb841, 2, none⟩ = some (.int .i64 a0_2) := (blk_cell BK841.out 2).trans rfl; have hcz113_3 : w110.cell? ⟨gb841, 3, none⟩ = some (.int .i64 a0_3) := (blk_cell BK841.out 3).trans rfl; have hcz113_4 : w110.cell? ⟨gb841, 4, none⟩ = some (.slice A0_4 l0_4.length c0_4) := (blk_cell BK841.out 4).trans rfl; have hfz113_0 := blk_frozen BK841.out 0; have hfz113_1 := blk_frozen BK841.out 1; have hfz113_2 := blk_frozen BK841.out 2; have hfz113_3 := blk_frozen BK841.out 3; have hfz113_4 := blk_frozen BK841.out 4) | ((with_reducible refine gate_callee (f := 17) rfl ?_); refine goesL_ (some 75) rfl rfl Try.func17 (by kernel_rfl) rfl #[.agg #[.int .i64 a0_0, .int .i64 a0_1, .int .i64 a0_2, .int .i64 a0_3, .slice A0_4 l0_4.length c0_4]] rfl (by (try simp only [List.map_toArray, List.map_cons, List.map_nil]); first | done | rfl | (simp only [List.length_drop, List.length_take]; rfl)) ?_; (with_reducible refine (laws_toAxis.calls kj59 a0_0 a0_1 a0_2 a0_3 _ _ l0_4 t891 t892 t893 t894 t895 _ ?side1 ?side2 A101.out).mono ?_); (case side1 => repeat (first | exact (Kd.C_below HR0_4.out HB.out) | (with_reducible refine Kd.C_alloc ?_ _) | (with_reducible refine Kd.C_drewN ?_ _) | (with_reducible refine Kd.C_drew ?_))); (case side2 => exact HC0_4.out); rintro e w114 ⟨v896, rfl, ho0, hb⟩; refine ⟨_, rfl, ?_⟩; have n0_ := Aside0.mk (Kd.R_elder' (by (with_reducible repeat (first | apply Kd.R_alloc | apply Kd.R_drewN | apply Kd.R_drew)); exact HO_859004.out) (Kd.R_base ho0) hb); have n1_ := Aside0.mk (Kd.R_elder' (by (with_reducible repeat (first | apply Kd.R_alloc | apply Kd.R_drewN | apply Kd.R_drew)); exact HO_867004.out) (Kd.R_base ho0) hb); have n2_ := Aside0.mk (Kd.R_elder' (by (with_reducible repeat (first | apply Kd.R_alloc | apply Kd.R_drewN | apply Kd.R_drew)); exact HO_876004.out) (Kd.R_base ho0) hb); have n3_ := Aside0.mk (Kd.R_lower (Kd.R_new' (Kd.R_new' (Kd.R_new' ho0 (Kd.R_lt (by (with_reducible repeat (first | apply Kd.R_alloc | apply Kd.R_drewN | apply Kd.R_drew)); exact HO_859004.out))) (Kd.R_lt (by (with_reducible repeat (first | apply Kd.R_alloc | apply Kd.R_drewN | apply Kd.R_drew)); exact HO_867004.out))) (Kd.R_lt (by (with_reducible repeat (first | apply Kd.R_alloc | apply Kd.R_drewN | apply Kd.R_drew)); exact HO_876004.out))) (below_size (by repeat (first | (with_reducible first | exact HB.out | apply below_alloc | apply pw_below_drewN | apply below_drew1 | refine below_set ?_ GE841.out | refine below_set ?_ GE858.out | refine below_set ?_ GE866.out | refine below_set ?_ GE875.out) | exact HB.out)))); have n4_ := Aside0.mk (blk_below (g := gb841) (o := .cells #[.int .i64 a0_0, .int .i64 a0_1, .int .i64 a0_2, .int .i64 a0_3, .slice A0_4 l0_4.length c0_4] 26 (0, 0)) (by (with_reducible repeat (first | refine blk_drewN ?_ _ | refine blk_drew ?_ | refine blk_alloc ?_ _)); exact BK841.out) hb); have n5_ := Aside0.mk (blk_below (g := gb858) (o := .cells #[.int .i64 t850, .int .i64 t851, .int .i64 t852, .int .i64 t853, .slice Ao22 t854.length co22] 33 (0, 0)) (by (with_reducible repeat (first | refine blk_drewN ?_ _ | refine blk_drew ?_ | refine blk_alloc ?_ _)); exact BK858.out) hb); have n6_ := Aside0.mk (blk_below (g := gb866) (o := .cells #[.int .i64 t859, .int .i64 t860, .int .i64 t861, .int .i64 t862, .slice Ao29 t886.length co29] 33 (0, 0)) (by (with_reducible repeat (first | refine blk_drewN ?_ _ | refine blk_drew ?_ | refine blk_alloc ?_ _)); exact BK866.out) hb); have n7_ := Aside0.mk (blk_below (g := gb875) (o := .cells #[.int .i64 t867, .int .i64 t868, .int .i64 t869, .int .i64 t870, .slice Ao36 t871.length co36] 33 (0, 0)) (by (with_reducible repeat (first | refine blk_drewN ?_ _ | refine blk_drew ?_ | refine blk_alloc ?_ _)); exact BK875.out) hb); have n8_ := Aside0.mk (below_step (by repeat (first | (with_reducible first | exact HB.out | apply below_alloc | apply pw_below_drewN | apply below_drew1 | refine below_set ?_ GE841.out | refine below_set ?_ GE858.out | refine below_set ?_ GE866.out | refine below_set ?_ GE875.out) | exact HB.out)) hb); clear HO_859004; clear HO_867004; clear HO_876004; clear BK841; clear BK858; clear BK866; clear BK875; clear HB; have HO_859004 := n0_; have HO_867004 := n1_; have HO_876004 := n2_; have HO897 := n3_; have BK841 := n4_; have BK858 := n5_; have BK866 := n6_; have BK875 := n7_; have HB := n8_; clear n0_ n1_ n2_ n3_ n4_ n5_ n6_ n7_ n8_; (try clear hb); (try clear hb2); (try clear hk); (try clear hi); (try clear ho0); obtain ⟨Ao115, co115, eo115⟩ := Kd.R_slice HO897.out; subst eo115) | ((with_reducible refine gate_callee (f := 41) rfl ?_); refine goesL_ (some 76) rfl rfl Try.func41 (by kernel_rfl) rfl #[.agg #[.int .i64 t891, .int .i64 t892, .int .i64 t893, .int .i64 t894, .slice Ao115 t895.length co115]] rfl (by (try simp only [List.map_toArray, List.map_cons, List.map_nil]); first | done | rfl | (simp only [List.length_drop, List.length_take]; rfl)) ?_; (with_reducible refine (impl_NormalAxis.calls kj59 t891 t892 t893 t894 _ _ t895 t898 t899 t900 t901 t902 t905 _ ?side1 ?side2 A102.out).mono ?_); (case side1 => repeat (first | exact (Kd.R_reads' HO897.out).2.2 | (with_reducible refine Kd.C_alloc ?_ _) | (with_reducible refine Kd.C_drewN ?_ _) | (with_reducible refine Kd.C_drew ?_))); (case side2 => exact (Kd.R_reads' HO897.out).2.1); rintro e w116 ⟨v903, rfl, ho0, hb⟩; refine ⟨_, rfl, ?_⟩; have n0_ := Aside0.mk (Kd.R_elder' (by (with_reducible repeat (first | apply Kd.R_alloc | apply Kd.R_drewN | apply Kd.R_drew)); exact HO_859004.out) (Kd.R_base ho0) hb); have n1_ := Aside0.mk (Kd.R_elder' (by (with_reducible repeat (first | apply Kd.R_alloc | apply Kd.R_drewN | apply Kd.R_drew)); exact HO_867004.out) (Kd.R_base ho0) hb); have n2_ := Aside0.mk (Kd.R_elder' (by (with_reducible repeat (first | apply Kd.R_alloc | apply Kd.R_drewN | apply Kd.R_drew)); exact HO_876004.out) (Kd.R_base ho0) hb); have n3_ := Aside0.mk (Kd.R_elder' (by (with_reducible repeat (first | apply Kd.R_alloc | apply Kd.R_drewN | apply Kd.R_drew)); exact HO897.out) (Kd.R_base ho0) hb); have n4_ := Aside0.mk (Kd.R_lower (Kd.R_new' (Kd.R_new' (Kd.R_new' (Kd.R_new' ho0 (Kd.R_lt (by (with_reducible repeat (first | apply Kd.R_alloc | apply Kd.R_drewN | apply Kd.R_drew)); exact HO_859004.out))) (Kd.R_lt (by (with_reducible repeat (first | apply Kd.R_alloc | apply Kd.R_drewN | apply Kd.R_drew)); exact HO_867004.out))) (Kd.R_lt (by (with_reducible repeat (first | apply Kd.R_alloc | apply Kd.R_drewN | apply Kd.R_drew)); exact HO_876004.out))) (Kd.R_lt (by (with_reducible repeat (first | apply Kd.R_alloc | apply Kd.R_drewN | apply Kd.R_drew)); exact HO897.out))) (below_size (by repeat (first | (with_reducible first | exact HB.out | apply below_alloc | apply pw_below_drewN | apply below_drew1 | refine below_set ?_ GE841.out | refine below_set ?_ GE858.out | refine below_set ?_ GE866.out | refine below_set ?_ GE875.out) | exact HB.out)))); have n5_ := Aside0.mk (blk_below (g := gb841) (o := .cells #[.int .i64 a0_0, .int .i64 a0_1, .int .i64 a0_2, .int .i64 a0_3, .slice A0_4 l0_4.length c0_4] 26 (0, 0)) (by (with_reducible repeat (first | refine blk_drewN ?_ _ | refine blk_drew ?_ | refine blk_alloc ?_ _)); exact BK841.out) hb); have n6_ := Aside0.mk (blk_below (g := gb858) (o := .cells #[.int .i64 t850, .int .i64 t851, .int .i64 t852, .int .i64 t853, .slice Ao22 t854.length co22] 33 (0, 0)) (by (with_reducible repeat (first | refine blk_drewN ?_ _ | refine blk_drew ?_ | refine blk_alloc ?_ _)); exact BK858.out) hb); have n7_ := Aside0.mk (blk_below (g := gb866) (o := .cells #[.int .i64 t859, .int .i64 t860, .int .i64 t861, .int .i64 t862, .slice Ao29 t886.length co29] 33 (0, 0)) (by (with_reducible repeat (first | refine blk_drewN ?_ _ | refine blk_drew ?_ | refine blk_alloc ?_ _)); exact BK866.out) hb); have n8_ := Aside0.mk (blk_below (g := gb875) (o := .cells #[.int .i64 t867, .int .i64 t868, .int .i64 t869, .int .i64 t870, .slice Ao36 t871.length co36] 33 (0, 0)) (by (with_reducible repeat (first | refine blk_drewN ?_ _ | refine blk_drew ?_ | refine blk_alloc ?_ _)); exact BK875.out) hb); have n9_ := Aside0.mk (below_step (by repeat (first | (with_reducible first | exact HB.out | apply below_alloc | apply pw_below_drewN | apply below_drew1 | refine below_set ?_ GE841.out | refine below_set ?_ GE858.out | refine below_set ?_ GE866.out | refine below_set ?_ GE875.out) | exact HB.out)) hb); clear HO_859004; clear HO_867004; clear HO_876004; clear HO897; clear BK841; clear BK858; clear BK866; clear BK875; clear HB; have HO_859004 := n0_; have HO_867004 := n1_; have HO_876004 := n2_; have HO897 := n3_; have HO904 := n4_; have BK841 := n5_; have BK858 := n6_; have BK866 := n7_; have BK875 := n8_; have HB := n9_; clear n0_ n1_ n2_ n3_ n4_ n5_ n6_ n7_ n8_ n9_; (try clear hb); (try clear hb2); (try clear hk); (try clear hi); (try clear ho0)) | ((with_reducible refine gate_dst (N := 12) rfl ?_); refine box_event ?hg (N := 12) ?hd (cs := #[.int .i64 0, .int .i64 0, .int .i64 0, .int .i64 0, .slice none 0 0]) (t := 33) ?hr ?_; (case hd => rfl); (case hg => rfl); (case hr => first | (go_simp; done) | (go_simp; rfl)); intro gb906 hg w117 hbox hb; have n0_ := Aside0.mk (Kd.R_below (by (with_reducible repeat (first | apply Kd.R_alloc | apply Kd.R_drewN | apply Kd.R_drew)); exact HO_859004.out) hb); have n1_ := Aside0.mk (Kd.R_below (by (with_reducible repeat (first | apply Kd.R_alloc | apply Kd.R_drewN | apply Kd.R_drew)); exact HO_867004.out) hb); have n2_ := Aside0.mk (Kd.R_below (by (with_reducible repeat (first | apply Kd.R_alloc | apply Kd.R_drewN | apply Kd.R_drew)); exact HO_876004.out) hb); have n3_ := Aside0.mk (Kd.R_below (by (with_reducible repeat (first | apply Kd.R_alloc | apply Kd.R_drewN | apply Kd.R_drew)); exact HO897.out) hb); have n4_ := Aside0.mk (Kd.R_below (by (with_reducible repeat (first | apply Kd.R_alloc | apply Kd.R_drewN | apply Kd.R_drew)); exact HO904.out) hb); have n5_ := Aside0.mk (blk_below (g := gb841) (o := .cells #[.int .i64 a0_0, .int .i64 a0_1, .int .i64 a0_2, .int .i64 a0_3, .slice A0_4 l0_4.length c0_4] 26 (0, 0)) (by (with_reducible repeat (first | refine blk_drewN ?_ _ | refine blk_drew ?_ | refine blk_alloc ?_ _)); exact BK841.out) hb); have n6_ := Aside0.mk (blk_below (g := gb858) (o := .cells #[.int .i64 t850, .int .i64 t851, .int .i64 t852, .int .i64 t853, .slice Ao22 t854.length co22] 33 (0, 0)) (by (with_reducible repeat (first | refine blk_drewN ?_ _ | refine blk_drew ?_ | refine blk_alloc ?_ _)); exact BK858.out) hb); have n7_ := Aside0.mk (blk_below (g := gb866) (o := .cells #[.int .i64 t859, .int .i64 t860, .int .i64 t861, .int .i64 t862, .slice Ao29 t886.length co29] 33 (0, 0)) (by (with_reducible repeat (first | refine blk_drewN ?_ _ | refine blk_drew ?_ | refine blk_alloc ?_ _)); exact BK866.out) hb); have n8_ := Aside0.mk (blk_below (g := gb875) (o := .cells #[.int .i64 t867, .int .i64 t868, .int .i64 t869, .int .i64 t870, .slice Ao36 t871.length co36] 33 (0, 0)) (by (with_reducible repeat (first | refine blk_drewN ?_ _ | refine blk_drew ?_ | refine blk_alloc ?_ _)); exact BK875.out) hb); have n9_ := Aside0.mk (below_step (by repeat (first | (with_reducible first | exact HB.out | apply below_alloc | apply pw_below_drewN | apply below_drew1 | refine below_set ?_ GE841.out | refine below_set ?_ GE858.out | refine below_set ?_ GE866.out | refine below_set ?_ GE875.out) | exact HB.out)) hb); have n10_ := Aside0.mk (hbox); have n11_ := Aside0.mk ((by rw [hg]; exact (below_size (by repeat (first | (with_reducible first | exact HB.out | apply below_alloc | apply pw_below_drewN | apply below_drew1 | refine below_set ?_ GE841.out | refine below_set ?_ GE858.out | refine below_set ?_ GE866.out | refine below_set ?_ GE875.out) | exact HB.out))) : w.heap.size ≤ gb906)); have n12_ := Aside0.mk ((by rw [hg]; exact (below_size (by repeat (first | (with_reducible first | exact HB.out | apply below_alloc | apply pw_below_drewN | apply below_drew1 | refine below_set ?_ GE841.out | refine below_set ?_ GE858.out | refine below_set ?_ GE866.out | refine below_set ?_ GE875.out) | exact HB.out))) : w.heap.size ≤ gb906)); have n13_ := Aside0.mk ((by rw [hg]; exact Nat.ne_of_lt (blk_lt (g := gb841) (o := .cells #[.int .i64 a0_0, .int .i64 a0_1, .int .i64 a0_2, .int .i64 a0_3, .slice A0_4 l0_4.length c0_4] 26 (0, 0)) (by (with_reducible repeat (first | refine blk_drewN ?_ _ | refine blk_drew ?_ | refine blk_alloc ?_ _)); exact BK841.out)) : gb841 ≠ gb906)); have n14_ := Aside0.mk ((by rw [hg]; exact Nat.ne_of_gt (blk_lt (g := gb841) (o := .cells #[.int .i64 a0_0, .int .i64 a0_1, .int .i64 a0_2, .int .i64 a0_3, .slice A0_4 l0_4.length c0_4] 26 (0, 0)) (by (with_reducible repeat (first | refine blk_drewN ?_ _ | refine blk_drew ?_ | refine blk_alloc ?_ _)); exact BK841.out)) : gb906 ≠ gb841)); have n15_ := Aside0.mk ((by rw [hg]; exact Nat.ne_of_lt (blk_lt (g := gb858) (o := .cells #[.int .i64 t850, .int .i64 t851, .int .i64 t852, .int .i64 t853, .slice Ao22 t854.length co22] 33 (0, 0)) (by (with_reducible repeat (first | refine blk_drewN ?_ _ | refine blk_drew ?_ | refine blk_alloc ?_ _)); exact BK858.out)) : gb858 ≠ gb906)); have n16_ := Aside0.mk ((by rw [hg]; exact Nat.ne_of_gt (blk_lt (g := gb858) (o := .cells #[.int .i64 t850, .int .i64 t851, .int .i64 t852, .int .i64 t853, .slice Ao22 t854.length co22] 33 (0, 0)) (by (with_reducible repeat (first | refine blk_drewN ?_ _ | refine blk_drew ?_ | refine blk_alloc ?_ _)); exact BK858.out)) : gb906 ≠ gb858)); have n17_ := Aside0.mk ((by rw [hg]; exact Nat.ne_of_lt (blk_lt (g := gb866) (o := .cells #[.int .i64 t859, .int .i64 t860, .int .i64 t861, .int .i64 t862, .slice Ao29 t886.length co29] 33 (0, 0)) (by (with_reducible repeat (first | refine blk_drewN ?_ _ | refine blk_drew ?_ | refine blk_alloc ?_ _)); exact BK866.out)) : gb866 ≠ gb906)); have n18_ := Aside0.mk ((by rw [hg]; exact Nat.ne_of_gt (blk_lt (g := gb866) (o := .cells #[.int .i64 t859, .int .i64 t860, .int .i64 t861, .int .i64 t862, .slice Ao29 t886.length co29] 33 (0, 0)) (by (with_reducible repeat (first | refine blk_drewN ?_ _ | refine blk_drew ?_ | refine blk_alloc ?_ _)); exact BK866.out)) : gb906 ≠ gb866)); have n19_ := Aside0.mk ((by rw [hg]; exact Nat.ne_of_lt (blk_lt (g := gb875) (o := .cells #[.int .i64 t867, .int .i64 t868, .int .i64 t869, .int .i64 t870, .slice Ao36 t871.length co36] 33 (0, 0)) (by (with_reducible repeat (first | refine blk_drewN ?_ _ | refine blk_drew ?_ | refine blk_alloc ?_ _)); exact BK875.out)) : gb875 ≠ gb906)); have n20_ := Aside0.mk ((by rw [hg]; exact Nat.ne_of_gt (blk_lt (g := gb875) (o := .cells #[.int .i64 t867, .int .i64 t868, .int .i64 t869, .int .i64 t870, .slice Ao36 t871.length co36] 33 (0, 0)) (by (with_reducible repeat (first | refine blk_drewN ?_ _ | refine blk_drew ?_ | refine blk_alloc ?_ _)); exact BK875.out)) : gb906 ≠ gb875)); clear HO_859004; clear HO_867004; clear HO_876004; clear HO897; clear HO904; clear BK841; clear BK858; clear BK866; clear BK875; clear HB; have HO_859004 := n0_; have HO_867004 := n1_; have HO_876004 := n2_; have HO897 := n3_; have HO904 := n4_; have BK841 := n5_; have BK858 := n6_; have BK866 := n7_; have BK875 := n8_; have HB := n9_; have BK906 := n10_; have GW906 := n11_; have GE906 := n12_; have NB841_906 := n13_; have NB906_841 := n14_; have NB858_906 := n15_; have NB906_858 := n16_; have NB866_906 := n17_; have NB906_866 := n18_; have NB875_906 := n19_; have NB906_875 := n20_; clear n0_ n1_ n2_ n3_ n4_ n5_ n6_ n7_ n8_ n9_ n10_ n11_ n12_ n13_ n14_ n15_ n16_ n17_ n18_ n19_ n20_; clear hb hbox hg; have hnb118 := NB906_841.out; have hnc118 := NB841_906.out; have hnb119 := NB906_858.out; have hnc119 := NB858_906.out; have hnb120 := NB906_866.out; have hnc120 := NB866_906.out; have hnb121 := NB906_875.out; have hnc121 := NB875_906.out; have hcz122_0 : w117.cell? ⟨gb906, 0, none⟩ = some (.int .i64 0) := (blk_cell BK906.out 0).trans rfl; have hcz122_1 : w117.cell? ⟨gb906, 1, none⟩ = some (.int .i64 0) := (blk_cell BK906.out 1).trans rfl; have hcz122_2 : w117.cell? ⟨gb906, 2, none⟩ = some (.int .i64 0) := (blk_cell BK906.out 2).trans rfl; have hcz122_3 : w117.cell? ⟨gb906, 3, none⟩ = some (.int .i64 0) := (blk_cell BK906.out 3).trans rfl; have hcz122_4 : w117.cell? ⟨gb906, 4, none⟩ = some (.slice none 0 0) := (blk_cell BK906.out 4).trans rfl; have hfz122_0 := blk_frozen BK906.out 0; have hfz122_1 := blk_frozen BK906.out 1; have hfz122_2 := blk_frozen BK906.out 2; have hfz122_3 := blk_frozen BK906.out 3; have hfz122_4 := blk_frozen BK906.out 4; obtain ⟨Ao123, co123, eo123⟩ := Kd.R_slice HO904.out; subst eo123))
           (try simp only [Act.put, List.setIfInBounds_toArray, List.set_cons_zero, List.set_cons_succ])
           go_cut [87] (fun v87 wc => ∃ (kq : Nat) (x87_102 : Bool), v87 = .bool x87_102 ∧ Aside0 (laws_FnExactNormalAxis.j2 kq t888 x87_102 t867 t868 t869 t870 t889 = some r) ∧ Aside0 (kq ≤ kj59) ∧ Aside0 (Kd.R k69 69 wc w.heap.size (fun k_ => some k_ ≠ ((.slice Ao29 t886.length co29) : Value).ownBlock ∧ some k_ ≠ ((.slice Ao36 t871.length co36) : Value).ownBlock ∧ some k_ ≠ ((.slice Ao123 t902.length co123) : Value).ownBlock) (.slice Ao22 t854.length co22) t854) ∧ Aside0 (Kd.R k69 69 wc w.heap.size (fun k_ => some k_ ≠ ((.slice Ao22 t854.length co22) : Value).ownBlock ∧ some k_ ≠ ((.slice Ao36 t871.length co36) : Value).ownBlock ∧ some k_ ≠ ((.slice Ao123 t902.length co123) : Value).ownBlock) (.slice Ao29 t886.length co29) t886) ∧ Aside0 (Kd.R k69 69 wc w.heap.size (fun k_ => some k_ ≠ ((.slice Ao22 t854.length co22) : Value).ownBlock ∧ some k_ ≠ ((.slice Ao29 t886.length co29) : Value).ownBlock ∧ some k_ ≠ ((.slice Ao123 t902.length co123) : Value).ownBlock) (.slice Ao36 t871.length co36) t889) ∧ Aside0 (Kd.R k69 69 wc w.heap.size (fun k_ => some k_ ≠ ((.slice Ao22 t854.length co22) : Value).ownBlock ∧ some k_ ≠ ((.slice Ao29 t886.length co29) : Value).ownBlock ∧ some k_ ≠ ((.slice Ao36 t871.length co36) : Value).ownBlock) (.slice Ao123 t902.length co123) t902) ∧ Aside0 (wc.heap[gb841]? = some (.cells #[.int .i64 a0_0, .int .i64 a0_1, .int .i64 a0_2, .int .i64 a0_3, (.slice A0_4 l0_4.length c0_4)] 26 (0, 0))) ∧ Aside0 (wc.heap[gb858]? = some (.cells #[.int .i64 t850, .int .i64 t851, .int .i64 t852, .int .i64 t853, (.slice Ao22 t854.length co22)] 33 (0, 0))) ∧ Aside0 (wc.heap[gb866]? = some (.cells #[.int .i64 t859, .int .i64 t860, .int .i64 t861, .int .i64 t862, (.slice Ao29 t886.length co29)] 33 (0, 0))) ∧ Aside0 (wc.heap[gb875]? = some (.cells #[.int .i64 t867, .int .i64 t868, .int .i64 t869, .int .i64 t870, (.slice Ao36 t871.length co36)] 33 (0, 0))) ∧ Aside0 (wc.heap[gb906]? = some (.cells #[.int .i64 t898, .int .i64 t899, .int .i64 t900, .int .i64 t901, (.slice Ao123 t902.length co123)] 33 (0, 0))) ∧ Aside0 (Below w.heap.size w wc))
           case first =>
            have H := HC103.out
            clear HC103
            replace H := Option.bind_eq_some_iff.mp H
            obtain ⟨t907, A1240, H⟩ := H
            replace H : (if t907 = true then (laws_FnExactNormalAxis.j2 kj59 t888 (t905 != t857) t867 t868 t869 t870 t889) else (laws_FnExactNormalAxis.j2 kj59 t888 true t867 t868 t869 t870 t889)) = some r := H
            have A124 := Aside0.mk A1240
            clear A1240
            by_cases c125 : t907 = true
            ·subst c125
             have H1 : (laws_FnExactNormalAxis.j2 kj59 t888 (t905 != t857) t867 t868 t869 t870 t889) = some r := by rw [if_pos rfl] at H; exact H
             clear H
             have H := H1
             clear H1
             have H' := Aside0.mk H
             clear H
             have hnb126 := NB906_841.out
             have hnc126 := NB841_906.out
             have hnb127 := NB906_858.out
             have hnc127 := NB858_906.out
             have hnb128 := NB906_866.out
             have hnc128 := NB866_906.out
             have hnb129 := NB906_875.out
             have hnc129 := NB875_906.out
             have hcz130_0 : w117.cell? ⟨gb906, 0, none⟩ = some (.int .i64 0) := (blk_cell BK906.out 0).trans rfl
             have hcz130_1 : w117.cell? ⟨gb906, 1, none⟩ = some (.int .i64 0) := (blk_cell BK906.out 1).trans rfl
             have hcz130_2 : w117.cell? ⟨gb906, 2, none⟩ = some (.int .i64 0) := (blk_cell BK906.out 2).trans rfl
             have hcz130_3 : w117.cell? ⟨gb906, 3, none⟩ = some (.int .i64 0) := (blk_cell BK906.out 3).trans rfl
             have hcz130_4 : w117.cell? ⟨gb906, 4, none⟩ = some (.slice none 0 0) := (blk_cell BK906.out 4).trans rfl
             have hfz130_0 := blk_frozen BK906.out 0
             have hfz130_1 := blk_frozen BK906.out 1
             have hfz130_2 := blk_frozen BK906.out 2
             have hfz130_3 := blk_frozen BK906.out 3
             have hfz130_4 := blk_frozen BK906.out 4
             have hnb131 := NB858_841.out
             have hnc131 := NB841_858.out
             have hnb132 := NB858_866.out
             have hnc132 := NB866_858.out
             have hnb133 := NB858_875.out
             have hnc133 := NB875_858.out
             have hcz134_0 : w117.cell? ⟨gb858, 0, none⟩ = some (.int .i64 t850) := (blk_cell BK858.out 0).trans rfl
             have hcz134_1 : w117.cell? ⟨gb858, 1, none⟩ = some (.int .i64 t851) := (blk_cell BK858.out 1).trans rfl
             have hcz134_2 : w117.cell? ⟨gb858, 2, none⟩ = some (.int .i64 t852) := (blk_cell BK858.out 2).trans rfl
             have hcz134_3 : w117.cell? ⟨gb858, 3, none⟩ = some (.int .i64 t853) := (blk_cell BK858.out 3).trans rfl
             have hcz134_4 : w117.cell? ⟨gb858, 4, none⟩ = some (.slice Ao22 t854.length co22) := (blk_cell BK858.out 4).trans rfl
             have hfz134_0 := blk_frozen BK858.out 0
             have hfz134_1 := blk_frozen BK858.out 1
             have hfz134_2 := blk_frozen BK858.out 2
             have hfz134_3 := blk_frozen BK858.out 3
             have hfz134_4 := blk_frozen BK858.out 4
             go_wp2_with (first | ((with_reducible refine gate_callee (f := 20) rfl ?_); refine goesL_ (some 81) rfl rfl Try.func20 (by kernel_rfl) rfl #[.agg #[.int .i64 t898, .int .i64 t899, .int .i64 t900, .int .i64 t901, .slice Ao123 t902.length co123], .agg #[.int .i64 t850, .int .i64 t851, .int .i64 t852, .int .i64 t853, .slice Ao22 t854.length co22]] rfl (by (try simp only [List.map_toArray, List.map_cons, List.map_nil]); first | done | rfl | (simp only [List.length_drop, List.length_take]; rfl)) ?_; (with_reducible refine (laws_eqAxis.calls kj59 t898 t899 t900 t901 _ _ t902 t850 t851 t852 t853 _ _ t854 true _ ?side1 ?side2 ?side3 ?side4 A124.out).mono ?_); (case side1 => refine (Kd.R_reads' (e := 69) (base := w.heap.size) (ok := fun k_ => ((((True ∧ some k_ ≠ (.slice Ao22 t854.length co22 : Value).ownBlock) ∧ some k_ ≠ (.slice Ao29 t886.length co29 : Value).ownBlock) ∧ some k_ ≠ (.slice Ao36 t871.length co36 : Value).ownBlock) ∧ some k_ ≠ (.slice Ao115 t895.length co115 : Value).ownBlock)) (n := t902.length) (c := co123) ?_).2.2; exact (by (with_reducible repeat (first | apply Kd.R_alloc | apply Kd.R_drewN | apply Kd.R_drew)); exact (Kd.R_mono (Kd.R_far (p := ⟨gb906, 4, none⟩) (Kd.R_far (p := ⟨gb906, 3, none⟩) (Kd.R_far (p := ⟨gb906, 2, none⟩) (Kd.R_far (p := ⟨gb906, 1, none⟩) (Kd.R_far (p := ⟨gb906, 0, none⟩) (Kd.R_types HO904.out BK906.out (by decide)) (fun _ hk => hk.2) (.int .i64 t898)) (fun _ hk => hk.2) (.int .i64 t899)) (fun _ hk => hk.2) (.int .i64 t900)) (fun _ hk => hk.2) (.int .i64 t901)) (fun _ hk => hk.2) (.slice Ao123 t902.length co123)) (fun _ h_ => h_.1)))); (case side2 => exact (Kd.R_reads' HO904.out).2.1); (case side3 => refine (Kd.R_reads' (e := 69) (base := w.heap.size) (ok := fun k_ => (((some k_ ≠ (.slice Ao29 t886.length co29 : Value).ownBlock ∧ some k_ ≠ (.slice Ao36 t871.length co36 : Value).ownBlock) ∧ some k_ ≠ (.slice Ao115 t895.length co115 : Value).ownBlock) ∧ some k_ ≠ (.slice Ao123 t902.length co123 : Value).ownBlock)) (n := t854.length) (c := co22) ?_).2.2; exact (by (with_reducible repeat (first | apply Kd.R_alloc | apply Kd.R_drewN | apply Kd.R_drew)); exact (Kd.R_mono (Kd.R_far (p := ⟨gb906, 4, none⟩) (Kd.R_far (p := ⟨gb906, 3, none⟩) (Kd.R_far (p := ⟨gb906, 2, none⟩) (Kd.R_far (p := ⟨gb906, 1, none⟩) (Kd.R_far (p := ⟨gb906, 0, none⟩) (Kd.R_types HO_859004.out BK906.out (by decide)) (fun _ hk => hk.2) (.int .i64 t898)) (fun _ hk => hk.2) (.int .i64 t899)) (fun _ hk => hk.2) (.int .i64 t900)) (fun _ hk => hk.2) (.int .i64 t901)) (fun _ hk => hk.2) (.slice Ao123 t902.length co123)) (fun _ h_ => h_.1)))); (case side4 => exact (Kd.R_reads' HO_859004.out).2.1); rintro e w135 ⟨rfl, hb⟩; refine ⟨_, rfl, ?_⟩; have n0_ := Aside0.mk (Kd.R_below (by (with_reducible repeat (first | apply Kd.R_alloc | apply Kd.R_drewN | apply Kd.R_drew)); exact (Kd.R_mono (Kd.R_far (p := ⟨gb906, 4, none⟩) (Kd.R_far (p := ⟨gb906, 3, none⟩) (Kd.R_far (p := ⟨gb906, 2, none⟩) (Kd.R_far (p := ⟨gb906, 1, none⟩) (Kd.R_far (p := ⟨gb906, 0, none⟩) (Kd.R_types HO_859004.out BK906.out (by decide)) (fun _ hk => hk.2) (.int .i64 t898)) (fun _ hk => hk.2) (.int .i64 t899)) (fun _ hk => hk.2) (.int .i64 t900)) (fun _ hk => hk.2) (.int .i64 t901)) (fun _ hk => hk.2) (.slice Ao123 t902.length co123)) (fun _ h_ => h_.1))) hb); have n1_ := Aside0.mk (Kd.R_below (by (with_reducible repeat (first | apply Kd.R_alloc | apply Kd.R_drewN | apply Kd.R_drew)); exact (Kd.R_mono (Kd.R_far (p := ⟨gb906, 4, none⟩) (Kd.R_far (p := ⟨gb906, 3, none⟩) (Kd.R_far (p := ⟨gb906, 2, none⟩) (Kd.R_far (p := ⟨gb906, 1, none⟩) (Kd.R_far (p := ⟨gb906, 0, none⟩) (Kd.R_types HO_867004.out BK906.out (by decide)) (fun _ hk => hk.2) (.int .i64 t898)) (fun _ hk => hk.2) (.int .i64 t899)) (fun _ hk => hk.2) (.int .i64 t900)) (fun _ hk => hk.2) (.int .i64 t901)) (fun _ hk => hk.2) (.slice Ao123 t902.length co123)) (fun _ h_ => h_.1))) hb); have n2_ := Aside0.mk (Kd.R_below (by (with_reducible repeat (first | apply Kd.R_alloc | apply Kd.R_drewN | apply Kd.R_drew)); exact (Kd.R_mono (Kd.R_far (p := ⟨gb906, 4, none⟩) (Kd.R_far (p := ⟨gb906, 3, none⟩) (Kd.R_far (p := ⟨gb906, 2, none⟩) (Kd.R_far (p := ⟨gb906, 1, none⟩) (Kd.R_far (p := ⟨gb906, 0, none⟩) (Kd.R_types HO_876004.out BK906.out (by decide)) (fun _ hk => hk.2) (.int .i64 t898)) (fun _ hk => hk.2) (.int .i64 t899)) (fun _ hk => hk.2) (.int .i64 t900)) (fun _ hk => hk.2) (.int .i64 t901)) (fun _ hk => hk.2) (.slice Ao123 t902.length co123)) (fun _ h_ => h_.1))) hb); have n3_ := Aside0.mk (Kd.R_below (by (with_reducible repeat (first | apply Kd.R_alloc | apply Kd.R_drewN | apply Kd.R_drew)); exact (Kd.R_mono (Kd.R_far (p := ⟨gb906, 4, none⟩) (Kd.R_far (p := ⟨gb906, 3, none⟩) (Kd.R_far (p := ⟨gb906, 2, none⟩) (Kd.R_far (p := ⟨gb906, 1, none⟩) (Kd.R_far (p := ⟨gb906, 0, none⟩) (Kd.R_types HO897.out BK906.out (by decide)) (fun _ hk => hk.2) (.int .i64 t898)) (fun _ hk => hk.2) (.int .i64 t899)) (fun _ hk => hk.2) (.int .i64 t900)) (fun _ hk => hk.2) (.int .i64 t901)) (fun _ hk => hk.2) (.slice Ao123 t902.length co123)) (fun _ h_ => h_.1))) hb); have n4_ := Aside0.mk (Kd.R_below (by (with_reducible repeat (first | apply Kd.R_alloc | apply Kd.R_drewN | apply Kd.R_drew)); exact (Kd.R_mono (Kd.R_far (p := ⟨gb906, 4, none⟩) (Kd.R_far (p := ⟨gb906, 3, none⟩) (Kd.R_far (p := ⟨gb906, 2, none⟩) (Kd.R_far (p := ⟨gb906, 1, none⟩) (Kd.R_far (p := ⟨gb906, 0, none⟩) (Kd.R_types HO904.out BK906.out (by decide)) (fun _ hk => hk.2) (.int .i64 t898)) (fun _ hk => hk.2) (.int .i64 t899)) (fun _ hk => hk.2) (.int .i64 t900)) (fun _ hk => hk.2) (.int .i64 t901)) (fun _ hk => hk.2) (.slice Ao123 t902.length co123)) (fun _ h_ => h_.1))) hb); have n5_ := Aside0.mk (blk_below (g := gb841) (o := .cells #[.int .i64 a0_0, .int .i64 a0_1, .int .i64 a0_2, .int .i64 a0_3, .slice A0_4 l0_4.length c0_4] 26 (0, 0)) (by (with_reducible repeat (first | refine blk_drewN ?_ _ | refine blk_drew ?_ | refine blk_alloc ?_ _)); refine blk_far ?_ NB841_906.out _; (with_reducible repeat (first | refine blk_drewN ?_ _ | refine blk_drew ?_ | refine blk_alloc ?_ _)); refine blk_far ?_ NB841_906.out _; (with_reducible repeat (first | refine blk_drewN ?_ _ | refine blk_drew ?_ | refine blk_alloc ?_ _)); refine blk_far ?_ NB841_906.out _; (with_reducible repeat (first | refine blk_drewN ?_ _ | refine blk_drew ?_ | refine blk_alloc ?_ _)); refine blk_far ?_ NB841_906.out _; (with_reducible repeat (first | refine blk_drewN ?_ _ | refine blk_drew ?_ | refine blk_alloc ?_ _)); refine blk_far ?_ NB841_906.out _; (with_reducible repeat (first | refine blk_drewN ?_ _ | refine blk_drew ?_ | refine blk_alloc ?_ _)); exact BK841.out) hb); have n6_ := Aside0.mk (blk_below (g := gb858) (o := .cells #[.int .i64 t850, .int .i64 t851, .int .i64 t852, .int .i64 t853, .slice Ao22 t854.length co22] 33 (0, 0)) (by (with_reducible repeat (first | refine blk_drewN ?_ _ | refine blk_drew ?_ | refine blk_alloc ?_ _)); refine blk_far ?_ NB858_906.out _; (with_reducible repeat (first | refine blk_drewN ?_ _ | refine blk_drew ?_ | refine blk_alloc ?_ _)); refine blk_far ?_ NB858_906.out _; (with_reducible repeat (first | refine blk_drewN ?_ _ | refine blk_drew ?_ | refine blk_alloc ?_ _)); refine blk_far ?_ NB858_906.out _; (with_reducible repeat (first | refine blk_drewN ?_ _ | refine blk_drew ?_ | refine blk_alloc ?_ _)); refine blk_far ?_ NB858_906.out _; (with_reducible repeat (first | refine blk_drewN ?_ _ | refine blk_drew ?_ | refine blk_alloc ?_ _)); refine blk_far ?_ NB858_906.out _; (with_reducible repeat (first | refine blk_drewN ?_ _ | refine blk_drew ?_ | refine blk_alloc ?_ _)); exact BK858.out) hb); have n7_ := Aside0.mk (blk_below (g := gb866) (o := .cells #[.int .i64 t859, .int .i64 t860, .int .i64 t861, .int .i64 t862, .slice Ao29 t886.length co29] 33 (0, 0)) (by (with_reducible repeat (first | refine blk_drewN ?_ _ | refine blk_drew ?_ | refine blk_alloc ?_ _)); refine blk_far ?_ NB866_906.out _; (with_reducible repeat (first | refine blk_drewN ?_ _ | refine blk_drew ?_ | refine blk_alloc ?_ _)); refine blk_far ?_ NB866_906.out _; (with_reducible repeat (first | refine blk_drewN ?_ _ | refine blk_drew ?_ | refine blk_alloc ?_ _)); refine blk_far ?_ NB866_906.out _; (with_reducible repeat (first | refine blk_drewN ?_ _ | refine blk_drew ?_ | refine blk_alloc ?_ _)); refine blk_far ?_ NB866_906.out _; (with_reducible repeat (first | refine blk_drewN ?_ _ | refine blk_drew ?_ | refine blk_alloc ?_ _)); refine blk_far ?_ NB866_906.out _; (with_reducible repeat (first | refine blk_drewN ?_ _ | refine blk_drew ?_ | refine blk_alloc ?_ _)); exact BK866.out) hb); have n8_ := Aside0.mk (blk_below (g := gb875) (o := .cells #[.int .i64 t867, .int .i64 t868, .int .i64 t869, .int .i64 t870, .slice Ao36 t871.length co36] 33 (0, 0)) (by (with_reducible repeat (first | refine blk_drewN ?_ _ | refine blk_drew ?_ | refine blk_alloc ?_ _)); refine blk_far ?_ NB875_906.out _; (with_reducible repeat (first | refine blk_drewN ?_ _ | refine blk_drew ?_ | refine blk_alloc ?_ _)); refine blk_far ?_ NB875_906.out _; (with_reducible repeat (first | refine blk_drewN ?_ _ | refine blk_drew ?_ | refine blk_alloc ?_ _)); refine blk_far ?_ NB875_906.out _; (with_reducible repeat (first | refine blk_drewN ?_ _ | refine blk_drew ?_ | refine blk_alloc ?_ _)); refine blk_far ?_ NB875_906.out _; (with_reducible repeat (first | refine blk_drewN ?_ _ | refine blk_drew ?_ | refine blk_alloc ?_ _)); refine blk_far ?_ NB875_906.out _; (with_reducible repeat (first | refine blk_drewN ?_ _ | refine blk_drew ?_ | refine blk_alloc ?_ _)); exact BK875.out) hb); have n9_ := Aside0.mk (blk_below (g := gb906) (o := .cells #[.int .i64 t898, .int .i64 t899, .int .i64 t900, .int .i64 t901, .slice Ao123 t902.length co123] 33 (0, 0)) (by (with_reducible repeat (first | refine blk_drewN ?_ _ | refine blk_drew ?_ | refine blk_alloc ?_ _)); refine blk_put (cs := #[.int .i64 t898, .int .i64 t899, .int .i64 t900, .int .i64 t901, .slice none 0 0]) ?_ 4 _ rfl; (with_reducible repeat (first | refine blk_drewN ?_ _ | refine blk_drew ?_ | refine blk_alloc ?_ _)); refine blk_put (cs := #[.int .i64 t898, .int .i64 t899, .int .i64 t900, .int .i64 0, .slice none 0 0]) ?_ 3 _ rfl; (with_reducible repeat (first | refine blk_drewN ?_ _ | refine blk_drew ?_ | refine blk_alloc ?_ _)); refine blk_put (cs := #[.int .i64 t898, .int .i64 t899, .int .i64 0, .int .i64 0, .slice none 0 0]) ?_ 2 _ rfl; (with_reducible repeat (first | refine blk_drewN ?_ _ | refine blk_drew ?_ | refine blk_alloc ?_ _)); refine blk_put (cs := #[.int .i64 t898, .int .i64 0, .int .i64 0, .int .i64 0, .slice none 0 0]) ?_ 1 _ rfl; (with_reducible repeat (first | refine blk_drewN ?_ _ | refine blk_drew ?_ | refine blk_alloc ?_ _)); refine blk_put (cs := #[.int .i64 0, .int .i64 0, .int .i64 0, .int .i64 0, .slice none 0 0]) ?_ 0 _ rfl; (with_reducible repeat (first | refine blk_drewN ?_ _ | refine blk_drew ?_ | refine blk_alloc ?_ _)); exact BK906.out) hb); have n10_ := Aside0.mk (below_step (by repeat (first | (with_reducible first | exact HB.out | apply below_alloc | apply pw_below_drewN | apply below_drew1 | refine below_set ?_ GE841.out | refine below_set ?_ GE858.out | refine below_set ?_ GE866.out | refine below_set ?_ GE875.out | refine below_set ?_ GE906.out) | exact HB.out)) hb); clear HO_859004; clear HO_867004; clear HO_876004; clear HO897; clear HO904; clear BK841; clear BK858; clear BK866; clear BK875; clear BK906; clear HB; have HO_859004 := n0_; have HO_867004 := n1_; have HO_876004 := n2_; have HO897 := n3_; have HO904 := n4_; have BK841 := n5_; have BK858 := n6_; have BK866 := n7_; have BK875 := n8_; have BK906 := n9_; have HB := n10_; clear n0_ n1_ n2_ n3_ n4_ n5_ n6_ n7_ n8_ n9_ n10_; (try clear hb); (try clear hb2); (try clear hk); (try clear hi)))
             go_meet
             case rel => exact ⟨_, ((t905 != t857)), (by first | rfl | (simp; done) | (simp [*]; done)), H', ⟨by have := HJ10.out; have := HJ59.out; first | omega | exact Nat.le_refl _⟩, ⟨by (try simp only [hl867004_59]); (with_reducible repeat (first | apply Kd.R_alloc | apply Kd.R_drewN | apply Kd.R_drew)); exact Kd.R_mono HO_859004.out (fun _ hk => ⟨hk.1.1.1, ⟨hk.1.1.2, hk.2⟩⟩)⟩, ⟨by (try simp only [hl867004_59]); (with_reducible repeat (first | apply Kd.R_alloc | apply Kd.R_drewN | apply Kd.R_drew)); exact Kd.R_mono HO_867004.out (fun _ hk => ⟨hk.1.1.1, ⟨hk.1.1.2, hk.2⟩⟩)⟩, ⟨by (try simp only [hl867004_59]); (with_reducible repeat (first | apply Kd.R_alloc | apply Kd.R_drewN | apply Kd.R_drew)); exact Kd.R_mono HO_876004.out (fun _ hk => ⟨hk.1.1.1, ⟨hk.1.1.2, hk.2⟩⟩)⟩, ⟨by (try simp only [hl867004_59]); (with_reducible repeat (first | apply Kd.R_alloc | apply Kd.R_drewN | apply Kd.R_drew)); exact Kd.R_mono HO904.out (fun _ hk => ⟨hk.1.1.1.2, ⟨hk.1.1.2, hk.1.2⟩⟩)⟩, ⟨by (try simp only [hl867004_59]); (with_reducible repeat (first | refine blk_drewN ?_ _ | refine blk_drew ?_ | refine blk_alloc ?_ _)); exact BK841.out⟩, ⟨by (try simp only [hl867004_59]); (with_reducible repeat (first | refine blk_drewN ?_ _ | refine blk_drew ?_ | refine blk_alloc ?_ _)); exact BK858.out⟩, ⟨by (try simp only [hl867004_59]); (with_reducible repeat (first | refine blk_drewN ?_ _ | refine blk_drew ?_ | refine blk_alloc ?_ _)); exact BK866.out⟩, ⟨by (try simp only [hl867004_59]); (with_reducible repeat (first | refine blk_drewN ?_ _ | refine blk_drew ?_ | refine blk_alloc ?_ _)); exact BK875.out⟩, ⟨by (try simp only [hl867004_59]); (with_reducible repeat (first | refine blk_drewN ?_ _ | refine blk_drew ?_ | refine blk_alloc ?_ _)); exact BK906.out⟩, ⟨by repeat (first | (with_reducible first | exact HB.out | apply below_alloc | apply pw_below_drewN | apply below_drew1 | refine below_set ?_ GE841.out | refine below_set ?_ GE858.out | refine below_set ?_ GE866.out | refine below_set ?_ GE875.out | refine below_set ?_ GE906.out) | exact HB.out)⟩⟩
            ·replace c125 := Bool.eq_false_iff.mpr c125
             subst c125
             have H1 : (laws_FnExactNormalAxis.j2 kj59 t888 true t867 t868 t869 t870 t889) = some r := by rw [if_neg (show ¬ (false = true) by decide)] at H; exact H
             clear H
             have H := H1
             clear H1
             have H' := Aside0.mk H
             clear H
             have hnb136 := NB906_841.out
             have hnc136 := NB841_906.out
             have hnb137 := NB906_858.out
             have hnc137 := NB858_906.out
             have hnb138 := NB906_866.out
             have hnc138 := NB866_906.out
             have hnb139 := NB906_875.out
             have hnc139 := NB875_906.out
             have hcz140_0 : w117.cell? ⟨gb906, 0, none⟩ = some (.int .i64 0) := (blk_cell BK906.out 0).trans rfl
             have hcz140_1 : w117.cell? ⟨gb906, 1, none⟩ = some (.int .i64 0) := (blk_cell BK906.out 1).trans rfl
             have hcz140_2 : w117.cell? ⟨gb906, 2, none⟩ = some (.int .i64 0) := (blk_cell BK906.out 2).trans rfl
             have hcz140_3 : w117.cell? ⟨gb906, 3, none⟩ = some (.int .i64 0) := (blk_cell BK906.out 3).trans rfl
             have hcz140_4 : w117.cell? ⟨gb906, 4, none⟩ = some (.slice none 0 0) := (blk_cell BK906.out 4).trans rfl
             have hfz140_0 := blk_frozen BK906.out 0
             have hfz140_1 := blk_frozen BK906.out 1
             have hfz140_2 := blk_frozen BK906.out 2
             have hfz140_3 := blk_frozen BK906.out 3
             have hfz140_4 := blk_frozen BK906.out 4
             have hnb141 := NB858_841.out
             have hnc141 := NB841_858.out
             have hnb142 := NB858_866.out
             have hnc142 := NB866_858.out
             have hnb143 := NB858_875.out
             have hnc143 := NB875_858.out
             have hcz144_0 : w117.cell? ⟨gb858, 0, none⟩ = some (.int .i64 t850) := (blk_cell BK858.out 0).trans rfl
             have hcz144_1 : w117.cell? ⟨gb858, 1, none⟩ = some (.int .i64 t851) := (blk_cell BK858.out 1).trans rfl
             have hcz144_2 : w117.cell? ⟨gb858, 2, none⟩ = some (.int .i64 t852) := (blk_cell BK858.out 2).trans rfl
             have hcz144_3 : w117.cell? ⟨gb858, 3, none⟩ = some (.int .i64 t853) := (blk_cell BK858.out 3).trans rfl
             have hcz144_4 : w117.cell? ⟨gb858, 4, none⟩ = some (.slice Ao22 t854.length co22) := (blk_cell BK858.out 4).trans rfl
             have hfz144_0 := blk_frozen BK858.out 0
             have hfz144_1 := blk_frozen BK858.out 1
             have hfz144_2 := blk_frozen BK858.out 2
             have hfz144_3 := blk_frozen BK858.out 3
             have hfz144_4 := blk_frozen BK858.out 4
             go_wp2_with (first | ((with_reducible refine gate_callee (f := 20) rfl ?_); refine goesL_ (some 81) rfl rfl Try.func20 (by kernel_rfl) rfl #[.agg #[.int .i64 t898, .int .i64 t899, .int .i64 t900, .int .i64 t901, .slice Ao123 t902.length co123], .agg #[.int .i64 t850, .int .i64 t851, .int .i64 t852, .int .i64 t853, .slice Ao22 t854.length co22]] rfl (by (try simp only [List.map_toArray, List.map_cons, List.map_nil]); first | done | rfl | (simp only [List.length_drop, List.length_take]; rfl)) ?_; (with_reducible refine (laws_eqAxis.calls kj59 t898 t899 t900 t901 _ _ t902 t850 t851 t852 t853 _ _ t854 false _ ?side1 ?side2 ?side3 ?side4 A124.out).mono ?_); (case side1 => refine (Kd.R_reads' (e := 69) (base := w.heap.size) (ok := fun k_ => ((((True ∧ some k_ ≠ (.slice Ao22 t854.length co22 : Value).ownBlock) ∧ some k_ ≠ (.slice Ao29 t886.length co29 : Value).ownBlock) ∧ some k_ ≠ (.slice Ao36 t871.length co36 : Value).ownBlock) ∧ some k_ ≠ (.slice Ao115 t895.length co115 : Value).ownBlock)) (n := t902.length) (c := co123) ?_).2.2; exact (by (with_reducible repeat (first | apply Kd.R_alloc | apply Kd.R_drewN | apply Kd.R_drew)); exact (Kd.R_mono (Kd.R_far (p := ⟨gb906, 4, none⟩) (Kd.R_far (p := ⟨gb906, 3, none⟩) (Kd.R_far (p := ⟨gb906, 2, none⟩) (Kd.R_far (p := ⟨gb906, 1, none⟩) (Kd.R_far (p := ⟨gb906, 0, none⟩) (Kd.R_types HO904.out BK906.out (by decide)) (fun _ hk => hk.2) (.int .i64 t898)) (fun _ hk => hk.2) (.int .i64 t899)) (fun _ hk => hk.2) (.int .i64 t900)) (fun _ hk => hk.2) (.int .i64 t901)) (fun _ hk => hk.2) (.slice Ao123 t902.length co123)) (fun _ h_ => h_.1)))); (case side2 => exact (Kd.R_reads' HO904.out).2.1); (case side3 => refine (Kd.R_reads' (e := 69) (base := w.heap.size) (ok := fun k_ => (((some k_ ≠ (.slice Ao29 t886.length co29 : Value).ownBlock ∧ some k_ ≠ (.slice Ao36 t871.length co36 : Value).ownBlock) ∧ some k_ ≠ (.slice Ao115 t895.length co115 : Value).ownBlock) ∧ some k_ ≠ (.slice Ao123 t902.length co123 : Value).ownBlock)) (n := t854.length) (c := co22) ?_).2.2; exact (by (with_reducible repeat (first | apply Kd.R_alloc | apply Kd.R_drewN | apply Kd.R_drew)); exact (Kd.R_mono (Kd.R_far (p := ⟨gb906, 4, none⟩) (Kd.R_far (p := ⟨gb906, 3, none⟩) (Kd.R_far (p := ⟨gb906, 2, none⟩) (Kd.R_far (p := ⟨gb906, 1, none⟩) (Kd.R_far (p := ⟨gb906, 0, none⟩) (Kd.R_types HO_859004.out BK906.out (by decide)) (fun _ hk => hk.2) (.int .i64 t898)) (fun _ hk => hk.2) (.int .i64 t899)) (fun _ hk => hk.2) (.int .i64 t900)) (fun _ hk => hk.2) (.int .i64 t901)) (fun _ hk => hk.2) (.slice Ao123 t902.length co123)) (fun _ h_ => h_.1)))); (case side4 => exact (Kd.R_reads' HO_859004.out).2.1); rintro e w145 ⟨rfl, hb⟩; refine ⟨_, rfl, ?_⟩; have n0_ := Aside0.mk (Kd.R_below (by (with_reducible repeat (first | apply Kd.R_alloc | apply Kd.R_drewN | apply Kd.R_drew)); exact (Kd.R_mono (Kd.R_far (p := ⟨gb906, 4, none⟩) (Kd.R_far (p := ⟨gb906, 3, none⟩) (Kd.R_far (p := ⟨gb906, 2, none⟩) (Kd.R_far (p := ⟨gb906, 1, none⟩) (Kd.R_far (p := ⟨gb906, 0, none⟩) (Kd.R_types HO_859004.out BK906.out (by decide)) (fun _ hk => hk.2) (.int .i64 t898)) (fun _ hk => hk.2) (.int .i64 t899)) (fun _ hk => hk.2) (.int .i64 t900)) (fun _ hk => hk.2) (.int .i64 t901)) (fun _ hk => hk.2) (.slice Ao123 t902.length co123)) (fun _ h_ => h_.1))) hb); have n1_ := Aside0.mk (Kd.R_below (by (with_reducible repeat (first | apply Kd.R_alloc | apply Kd.R_drewN | apply Kd.R_drew)); exact (Kd.R_mono (Kd.R_far (p := ⟨gb906, 4, none⟩) (Kd.R_far (p := ⟨gb906, 3, none⟩) (Kd.R_far (p := ⟨gb906, 2, none⟩) (Kd.R_far (p := ⟨gb906, 1, none⟩) (Kd.R_far (p := ⟨gb906, 0, none⟩) (Kd.R_types HO_867004.out BK906.out (by decide)) (fun _ hk => hk.2) (.int .i64 t898)) (fun _ hk => hk.2) (.int .i64 t899)) (fun _ hk => hk.2) (.int .i64 t900)) (fun _ hk => hk.2) (.int .i64 t901)) (fun _ hk => hk.2) (.slice Ao123 t902.length co123)) (fun _ h_ => h_.1))) hb); have n2_ := Aside0.mk (Kd.R_below (by (with_reducible repeat (first | apply Kd.R_alloc | apply Kd.R_drewN | apply Kd.R_drew)); exact (Kd.R_mono (Kd.R_far (p := ⟨gb906, 4, none⟩) (Kd.R_far (p := ⟨gb906, 3, none⟩) (Kd.R_far (p := ⟨gb906, 2, none⟩) (Kd.R_far (p := ⟨gb906, 1, none⟩) (Kd.R_far (p := ⟨gb906, 0, none⟩) (Kd.R_types HO_876004.out BK906.out (by decide)) (fun _ hk => hk.2) (.int .i64 t898)) (fun _ hk => hk.2) (.int .i64 t899)) (fun _ hk => hk.2) (.int .i64 t900)) (fun _ hk => hk.2) (.int .i64 t901)) (fun _ hk => hk.2) (.slice Ao123 t902.length co123)) (fun _ h_ => h_.1))) hb); have n3_ := Aside0.mk (Kd.R_below (by (with_reducible repeat (first | apply Kd.R_alloc | apply Kd.R_drewN | apply Kd.R_drew)); exact (Kd.R_mono (Kd.R_far (p := ⟨gb906, 4, none⟩) (Kd.R_far (p := ⟨gb906, 3, none⟩) (Kd.R_far (p := ⟨gb906, 2, none⟩) (Kd.R_far (p := ⟨gb906, 1, none⟩) (Kd.R_far (p := ⟨gb906, 0, none⟩) (Kd.R_types HO897.out BK906.out (by decide)) (fun _ hk => hk.2) (.int .i64 t898)) (fun _ hk => hk.2) (.int .i64 t899)) (fun _ hk => hk.2) (.int .i64 t900)) (fun _ hk => hk.2) (.int .i64 t901)) (fun _ hk => hk.2) (.slice Ao123 t902.length co123)) (fun _ h_ => h_.1))) hb); have n4_ := Aside0.mk (Kd.R_below (by (with_reducible repeat (first | apply Kd.R_alloc | apply Kd.R_drewN | apply Kd.R_drew)); exact (Kd.R_mono (Kd.R_far (p := ⟨gb906, 4, none⟩) (Kd.R_far (p := ⟨gb906, 3, none⟩) (Kd.R_far (p := ⟨gb906, 2, none⟩) (Kd.R_far (p := ⟨gb906, 1, none⟩) (Kd.R_far (p := ⟨gb906, 0, none⟩) (Kd.R_types HO904.out BK906.out (by decide)) (fun _ hk => hk.2) (.int .i64 t898)) (fun _ hk => hk.2) (.int .i64 t899)) (fun _ hk => hk.2) (.int .i64 t900)) (fun _ hk => hk.2) (.int .i64 t901)) (fun _ hk => hk.2) (.slice Ao123 t902.length co123)) (fun _ h_ => h_.1))) hb); have n5_ := Aside0.mk (blk_below (g := gb841) (o := .cells #[.int .i64 a0_0, .int .i64 a0_1, .int .i64 a0_2, .int .i64 a0_3, .slice A0_4 l0_4.length c0_4] 26 (0, 0)) (by (with_reducible repeat (first | refine blk_drewN ?_ _ | refine blk_drew ?_ | refine blk_alloc ?_ _)); refine blk_far ?_ NB841_906.out _; (with_reducible repeat (first | refine blk_drewN ?_ _ | refine blk_drew ?_ | refine blk_alloc ?_ _)); refine blk_far ?_ NB841_906.out _; (with_reducible repeat (first | refine blk_drewN ?_ _ | refine blk_drew ?_ | refine blk_alloc ?_ _)); refine blk_far ?_ NB841_906.out _; (with_reducible repeat (first | refine blk_drewN ?_ _ | refine blk_drew ?_ | refine blk_alloc ?_ _)); refine blk_far ?_ NB841_906.out _; (with_reducible repeat (first | refine blk_drewN ?_ _ | refine blk_drew ?_ | refine blk_alloc ?_ _)); refine blk_far ?_ NB841_906.out _; (with_reducible repeat (first | refine blk_drewN ?_ _ | refine blk_drew ?_ | refine blk_alloc ?_ _)); exact BK841.out) hb); have n6_ := Aside0.mk (blk_below (g := gb858) (o := .cells #[.int .i64 t850, .int .i64 t851, .int .i64 t852, .int .i64 t853, .slice Ao22 t854.length co22] 33 (0, 0)) (by (with_reducible repeat (first | refine blk_drewN ?_ _ | refine blk_drew ?_ | refine blk_alloc ?_ _)); refine blk_far ?_ NB858_906.out _; (with_reducible repeat (first | refine blk_drewN ?_ _ | refine blk_drew ?_ | refine blk_alloc ?_ _)); refine blk_far ?_ NB858_906.out _; (with_reducible repeat (first | refine blk_drewN ?_ _ | refine blk_drew ?_ | refine blk_alloc ?_ _)); refine blk_far ?_ NB858_906.out _; (with_reducible repeat (first | refine blk_drewN ?_ _ | refine blk_drew ?_ | refine blk_alloc ?_ _)); refine blk_far ?_ NB858_906.out _; (with_reducible repeat (first | refine blk_drewN ?_ _ | refine blk_drew ?_ | refine blk_alloc ?_ _)); refine blk_far ?_ NB858_906.out _; (with_reducible repeat (first | refine blk_drewN ?_ _ | refine blk_drew ?_ | refine blk_alloc ?_ _)); exact BK858.out) hb); have n7_ := Aside0.mk (blk_below (g := gb866) (o := .cells #[.int .i64 t859, .int .i64 t860, .int .i64 t861, .int .i64 t862, .slice Ao29 t886.length co29] 33 (0, 0)) (by (with_reducible repeat (first | refine blk_drewN ?_ _ | refine blk_drew ?_ | refine blk_alloc ?_ _)); refine blk_far ?_ NB866_906.out _; (with_reducible repeat (first | refine blk_drewN ?_ _ | refine blk_drew ?_ | refine blk_alloc ?_ _)); refine blk_far ?_ NB866_906.out _; (with_reducible repeat (first | refine blk_drewN ?_ _ | refine blk_drew ?_ | refine blk_alloc ?_ _)); refine blk_far ?_ NB866_906.out _; (with_reducible repeat (first | refine blk_drewN ?_ _ | refine blk_drew ?_ | refine blk_alloc ?_ _)); refine blk_far ?_ NB866_906.out _; (with_reducible repeat (first | refine blk_drewN ?_ _ | refine blk_drew ?_ | refine blk_alloc ?_ _)); refine blk_far ?_ NB866_906.out _; (with_reducible repeat (first | refine blk_drewN ?_ _ | refine blk_drew ?_ | refine blk_alloc ?_ _)); exact BK866.out) hb); have n8_ := Aside0.mk (blk_below (g := gb875) (o := .cells #[.int .i64 t867, .int .i64 t868, .int .i64 t869, .int .i64 t870, .slice Ao36 t871.length co36] 33 (0, 0)) (by (with_reducible repeat (first | refine blk_drewN ?_ _ | refine blk_drew ?_ | refine blk_alloc ?_ _)); refine blk_far ?_ NB875_906.out _; (with_reducible repeat (first | refine blk_drewN ?_ _ | refine blk_drew ?_ | refine blk_alloc ?_ _)); refine blk_far ?_ NB875_906.out _; (with_reducible repeat (first | refine blk_drewN ?_ _ | refine blk_drew ?_ | refine blk_alloc ?_ _)); refine blk_far ?_ NB875_906.out _; (with_reducible repeat (first | refine blk_drewN ?_ _ | refine blk_drew ?_ | refine blk_alloc ?_ _)); refine blk_far ?_ NB875_906.out _; (with_reducible repeat (first | refine blk_drewN ?_ _ | refine blk_drew ?_ | refine blk_alloc ?_ _)); refine blk_far ?_ NB875_906.out _; (with_reducible repeat (first | refine blk_drewN ?_ _ | refine blk_drew ?_ | refine blk_alloc ?_ _)); exact BK875.out) hb); have n9_ := Aside0.mk (blk_below (g := gb906) (o := .cells #[.int .i64 t898, .int .i64 t899, .int .i64 t900, .int .i64 t901, .slice Ao123 t902.length co123] 33 (0, 0)) (by (with_reducible repeat (first | refine blk_drewN ?_ _ | refine blk_drew ?_ | refine blk_alloc ?_ _)); refine blk_put (cs := #[.int .i64 t898, .int .i64 t899, .int .i64 t900, .int .i64 t901, .slice none 0 0]) ?_ 4 _ rfl; (with_reducible repeat (first | refine blk_drewN ?_ _ | refine blk_drew ?_ | refine blk_alloc ?_ _)); refine blk_put (cs := #[.int .i64 t898, .int .i64 t899, .int .i64 t900, .int .i64 0, .slice none 0 0]) ?_ 3 _ rfl; (with_reducible repeat (first | refine blk_drewN ?_ _ | refine blk_drew ?_ | refine blk_alloc ?_ _)); refine blk_put (cs := #[.int .i64 t898, .int .i64 t899, .int .i64 0, .int .i64 0, .slice none 0 0]) ?_ 2 _ rfl; (with_reducible repeat (first | refine blk_drewN ?_ _ | refine blk_drew ?_ | refine blk_alloc ?_ _)); refine blk_put (cs := #[.int .i64 t898, .int .i64 0, .int .i64 0, .int .i64 0, .slice none 0 0]) ?_ 1 _ rfl; (with_reducible repeat (first | refine blk_drewN ?_ _ | refine blk_drew ?_ | refine blk_alloc ?_ _)); refine blk_put (cs := #[.int .i64 0, .int .i64 0, .int .i64 0, .int .i64 0, .slice none 0 0]) ?_ 0 _ rfl; (with_reducible repeat (first | refine blk_drewN ?_ _ | refine blk_drew ?_ | refine blk_alloc ?_ _)); exact BK906.out) hb); have n10_ := Aside0.mk (below_step (by repeat (first | (with_reducible first | exact HB.out | apply below_alloc | apply pw_below_drewN | apply below_drew1 | refine below_set ?_ GE841.out | refine below_set ?_ GE858.out | refine below_set ?_ GE866.out | refine below_set ?_ GE875.out | refine below_set ?_ GE906.out) | exact HB.out)) hb); clear HO_859004; clear HO_867004; clear HO_876004; clear HO897; clear HO904; clear BK841; clear BK858; clear BK866; clear BK875; clear BK906; clear HB; have HO_859004 := n0_; have HO_867004 := n1_; have HO_876004 := n2_; have HO897 := n3_; have HO904 := n4_; have BK841 := n5_; have BK858 := n6_; have BK866 := n7_; have BK875 := n8_; have BK906 := n9_; have HB := n10_; clear n0_ n1_ n2_ n3_ n4_ n5_ n6_ n7_ n8_ n9_ n10_; (try clear hb); (try clear hb2); (try clear hk); (try clear hi)))
             go_meet
             case rel => exact ⟨_, (true), (by first | rfl | (simp; done) | (simp [*]; done)), H', ⟨by have := HJ10.out; have := HJ59.out; first | omega | exact Nat.le_refl _⟩, ⟨by (try simp only [hl867004_59]); (with_reducible repeat (first | apply Kd.R_alloc | apply Kd.R_drewN | apply Kd.R_drew)); exact Kd.R_mono HO_859004.out (fun _ hk => ⟨hk.1.1.1, ⟨hk.1.1.2, hk.2⟩⟩)⟩, ⟨by (try simp only [hl867004_59]); (with_reducible repeat (first | apply Kd.R_alloc | apply Kd.R_drewN | apply Kd.R_drew)); exact Kd.R_mono HO_867004.out (fun _ hk => ⟨hk.1.1.1, ⟨hk.1.1.2, hk.2⟩⟩)⟩, ⟨by (try simp only [hl867004_59]); (with_reducible repeat (first | apply Kd.R_alloc | apply Kd.R_drewN | apply Kd.R_drew)); exact Kd.R_mono HO_876004.out (fun _ hk => ⟨hk.1.1.1, ⟨hk.1.1.2, hk.2⟩⟩)⟩, ⟨by (try simp only [hl867004_59]); (with_reducible repeat (first | apply Kd.R_alloc | apply Kd.R_drewN | apply Kd.R_drew)); exact Kd.R_mono HO904.out (fun _ hk => ⟨hk.1.1.1.2, ⟨hk.1.1.2, hk.1.2⟩⟩)⟩, ⟨by (try simp only [hl867004_59]); (with_reducible repeat (first | refine blk_drewN ?_ _ | refine blk_drew ?_ | refine blk_alloc ?_ _)); exact BK841.out⟩, ⟨by (try simp only [hl867004_59]); (with_reducible repeat (first | refine blk_drewN ?_ _ | refine blk_drew ?_ | refine blk_alloc ?_ _)); exact BK858.out⟩, ⟨by (try simp only [hl867004_59]); (with_reducible repeat (first | refine blk_drewN ?_ _ | refine blk_drew ?_ | refine blk_alloc ?_ _)); exact BK866.out⟩, ⟨by (try simp only [hl867004_59]); (with_reducible repeat (first | refine blk_drewN ?_ _ | refine blk_drew ?_ | refine blk_alloc ?_ _)); exact BK875.out⟩, ⟨by (try simp only [hl867004_59]); (with_reducible repeat (first | refine blk_drewN ?_ _ | refine blk_drew ?_ | refine blk_alloc ?_ _)); exact BK906.out⟩, ⟨by repeat (first | (with_reducible first | exact HB.out | apply below_alloc | apply pw_below_drewN | apply below_drew1 | refine below_set ?_ GE841.out | refine below_set ?_ GE858.out | refine below_set ?_ GE866.out | refine below_set ?_ GE875.out | refine below_set ?_ GE906.out) | exact HB.out)⟩⟩
           case rest =>
            clear HC103
            try clear c1
            try clear c2
            try clear p2
            try clear c3
            try clear c3b0
            try clear c4
            try clear c5
            try clear c6
            try clear c7
            try clear c8
            try clear c9
            try clear c10
            try clear c11
            try clear c12
            try clear c13
            try clear c14
            try clear c15
            try clear c17
            try clear c20
            try clear c26
            try clear c27
            try clear c32
            try clear c33
            try clear c34
            try clear c36
            try clear c37
            try clear c38
            try clear c39
            try clear c40
            try clear c41
            try clear c43
            try clear c44
            try clear c47
            try clear c48
            try clear c49
            try clear c51
            try clear c52
            try clear c55
            try clear c58
            try clear c65
            try clear c66
            try clear c67
            try clear c70
            try clear c70b0
            try clear c72
            try clear c73
            try clear c74
            try clear c75
            try clear c77
            try clear c78
            try clear c81
            try clear c82
            try clear c83
            try clear c85
            try clear c86
            try clear c89
            try clear c92
            try clear c92b0
            try clear c93
            try clear c94
            try clear c95
            try clear c100
            try clear c100b0
            try clear c100b1
            try clear c104
            try clear c105
            try clear c106
            try clear c111
            try clear c112
            try clear c118
            try clear c119
            try clear c120
            try clear c121
            try clear c125
            try clear c126
            try clear c127
            try clear c128
            try clear c129
            try clear c131
            try clear c132
            try clear c133
            try clear c136
            try clear c137
            try clear c138
            try clear c139
            try clear c141
            try clear c142
            try clear c143
            try clear hcz107_0
            try clear hcz107_1
            try clear hcz107_2
            try clear hcz107_3
            try clear hcz107_4
            try clear hcz109_0
            try clear hcz109_1
            try clear hcz109_2
            try clear hcz109_3
            try clear hcz109_4
            try clear hcz113_0
            try clear hcz113_1
            try clear hcz113_2
            try clear hcz113_3
            try clear hcz113_4
            try clear hcz122_0
            try clear hcz122_1
            try clear hcz122_2
            try clear hcz122_3
            try clear hcz122_4
            try clear hcz130_0
            try clear hcz130_1
            try clear hcz130_2
            try clear hcz130_3
            try clear hcz130_4
            try clear hcz134_0
            try clear hcz134_1
            try clear hcz134_2
            try clear hcz134_3
            try clear hcz134_4
            try clear hcz13_0
            try clear hcz13_1
            try clear hcz13_2
            try clear hcz13_3
            try clear hcz13_4
            try clear hcz140_0
            try clear hcz140_1
            try clear hcz140_2
            try clear hcz140_3
            try clear hcz140_4
            try clear hcz144_0
            try clear hcz144_1
            try clear hcz144_2
            try clear hcz144_3
            try clear hcz144_4
            try clear hcz15_0
            try clear hcz15_1
            try clear hcz15_2
            try clear hcz15_3
            try clear hcz15_4
            try clear hcz21_0
            try clear hcz21_1
            try clear hcz21_2
            try clear hcz21_3
            try clear hcz21_4
            try clear hcz23_0
            try clear hcz23_1
            try clear hcz23_2
            try clear hcz23_3
            try clear hcz23_4
            try clear hcz28_0
            try clear hcz28_1
            try clear hcz28_2
            try clear hcz28_3
            try clear hcz28_4
            try clear hcz35_0
            try clear hcz35_1
            try clear hcz35_2
            try clear hcz35_3
            try clear hcz35_4
            try clear hcz42_0
            try clear hcz42_1
            try clear hcz42_2
            try clear hcz42_3
            try clear hcz42_4
            try clear hcz45_0
            try clear hcz45_1
            try clear hcz45_2
            try clear hcz45_3
            try clear hcz45_4
            try clear hcz50_0
            try clear hcz50_1
            try clear hcz50_2
            try clear hcz50_3
            try clear hcz50_4
            try clear hcz53_0
            try clear hcz53_1
            try clear hcz53_2
            try clear hcz53_3
            try clear hcz53_4
            try clear hcz5_0
            try clear hcz5_1
            try clear hcz5_2
            try clear hcz5_3
            try clear hcz5_4
            try clear hcz68_0
            try clear hcz68_1
            try clear hcz68_2
            try clear hcz68_3
            try clear hcz68_4
            try clear hcz76_0
            try clear hcz76_1
            try clear hcz76_2
            try clear hcz76_3
            try clear hcz76_4
            try clear hcz79_0
            try clear hcz79_1
            try clear hcz79_2
            try clear hcz79_3
            try clear hcz79_4
            try clear hcz84_0
            try clear hcz84_1
            try clear hcz84_2
            try clear hcz84_3
            try clear hcz84_4
            try clear hcz87_0
            try clear hcz87_1
            try clear hcz87_2
            try clear hcz87_3
            try clear hcz87_4
            try clear hcz96_0
            try clear hcz96_1
            try clear hcz96_2
            try clear hcz96_3
            try clear hcz96_4
            try clear hcz98_0
            try clear hcz98_1
            try clear hcz98_2
            try clear hcz98_3
            try clear hcz98_4
            try clear hfz107_0
            try clear hfz107_1
            try clear hfz107_2
            try clear hfz107_3
            try clear hfz107_4
            try clear hfz109_0
            try clear hfz109_1
            try clear hfz109_2
            try clear hfz109_3
            try clear hfz109_4
            try clear hfz113_0
            try clear hfz113_1
            try clear hfz113_2
            try clear hfz113_3
            try clear hfz113_4
            try clear hfz122_0
            try clear hfz122_1
            try clear hfz122_2
            try clear hfz122_3
            try clear hfz122_4
            try clear hfz130_0
            try clear hfz130_1
            try clear hfz130_2
            try clear hfz130_3
            try clear hfz130_4
            try clear hfz134_0
            try clear hfz134_1
            try clear hfz134_2
            try clear hfz134_3
            try clear hfz134_4
            try clear hfz13_0
            try clear hfz13_1
            try clear hfz13_2
            try clear hfz13_3
            try clear hfz13_4
            try clear hfz140_0
            try clear hfz140_1
            try clear hfz140_2
            try clear hfz140_3
            try clear hfz140_4
            try clear hfz144_0
            try clear hfz144_1
            try clear hfz144_2
            try clear hfz144_3
            try clear hfz144_4
            try clear hfz15_0
            try clear hfz15_1
            try clear hfz15_2
            try clear hfz15_3
            try clear hfz15_4
            try clear hfz21_0
            try clear hfz21_1
            try clear hfz21_2
            try clear hfz21_3
            try clear hfz21_4
            try clear hfz23_0
            try clear hfz23_1
            try clear hfz23_2
            try clear hfz23_3
            try clear hfz23_4
            try clear hfz28_0
            try clear hfz28_1
            try clear hfz28_2
            try clear hfz28_3
            try clear hfz28_4
            try clear hfz35_0
            try clear hfz35_1
            try clear hfz35_2
            try clear hfz35_3
            try clear hfz35_4
            try clear hfz42_0
            try clear hfz42_1
            try clear hfz42_2
            try clear hfz42_3
            try clear hfz42_4
            try clear hfz45_0
            try clear hfz45_1
            try clear hfz45_2
            try clear hfz45_3
            try clear hfz45_4
            try clear hfz50_0
            try clear hfz50_1
            try clear hfz50_2
            try clear hfz50_3
            try clear hfz50_4
            try clear hfz53_0
            try clear hfz53_1
            try clear hfz53_2
            try clear hfz53_3
            try clear hfz53_4
            try clear hfz5_0
            try clear hfz5_1
            try clear hfz5_2
            try clear hfz5_3
            try clear hfz5_4
            try clear hfz68_0
            try clear hfz68_1
            try clear hfz68_2
            try clear hfz68_3
            try clear hfz68_4
            try clear hfz76_0
            try clear hfz76_1
            try clear hfz76_2
            try clear hfz76_3
            try clear hfz76_4
            try clear hfz79_0
            try clear hfz79_1
            try clear hfz79_2
            try clear hfz79_3
            try clear hfz79_4
            try clear hfz84_0
            try clear hfz84_1
            try clear hfz84_2
            try clear hfz84_3
            try clear hfz84_4
            try clear hfz87_0
            try clear hfz87_1
            try clear hfz87_2
            try clear hfz87_3
            try clear hfz87_4
            try clear hfz96_0
            try clear hfz96_1
            try clear hfz96_2
            try clear hfz96_3
            try clear hfz96_4
            try clear hfz98_0
            try clear hfz98_1
            try clear hfz98_2
            try clear hfz98_3
            try clear hfz98_4
            try clear p2
            obtain ⟨kq, x87_102, rfl, HA, HJ102, HO_859004, HO_867004, HO_876004, HO_907004, BK841, BK858, BK866, BK875, BK906, HB⟩ := hcut
            have hl876004_102 := (Kd.R_reads' HO_876004.out).1
            rw [hl876004_102] at HO_876004
            (try simp only [hl876004_102])
            (try simp only [hl876004_102] at BK841)
            (try simp only [hl876004_102] at BK858)
            (try simp only [hl876004_102] at BK866)
            (try simp only [hl876004_102] at BK875)
            (try simp only [hl876004_102] at BK906)
            (try simp only [hl876004_102] at HO_859004)
            (try simp only [hl876004_102] at HO_867004)
            (try simp only [hl876004_102] at HO_907004)
            cases kq with
            | zero => exact absurd HA.out (by simp [laws_FnExactNormalAxis.j2])
            | succ kj102 =>
             have H := HA.out
             clear HA
             simp only [laws_FnExactNormalAxis.j2] at H
             by_cases c146 : x87_102 = true
             ·subst c146
              have H1 : (some false) = some r := by rw [if_pos rfl] at H; exact H
              clear H
              have H := H1
              clear H1
              obtain rfl := Option.some.inj H
              go_wp2
              go_ret
              exact ⟨by first | rfl | (simp [errW_none, errW_some] <;> rfl) | (simp [*, errW_none, errW_some] <;> rfl), by repeat (first | (with_reducible first | exact HB.out | apply below_alloc | apply pw_below_drewN | apply below_drew1 | refine below_set ?_ GE841.out | refine below_set ?_ GE858.out | refine below_set ?_ GE866.out | refine below_set ?_ GE875.out | refine below_set ?_ GE906.out) | exact HB.out)⟩
             ·replace c146 := Bool.eq_false_iff.mpr c146
              subst c146
              have H1 : ((laws_heldAxis.f kj102 t867 t868 t869 t870 t889 1).bind fun t908 => (if t908 < 0 then (some false) else (if t908 = t888 then (some true) else (some false)))) = some r := by rw [if_neg (show ¬ (false = true) by decide)] at H; exact H
              clear H
              have H := H1
              clear H1
              replace H := Option.bind_eq_some_iff.mp H
              obtain ⟨t908, A1470, H⟩ := H
              replace H : (if t908 < 0 then (some false) else (if t908 = t888 then (some true) else (some false))) = some r := H
              have A147 := Aside0.mk A1470
              clear A1470
              by_cases c148 : t908 < 0
              ·rw [if_pos c148] at H
               have c148b0 : decide (t908 < 0) = true := decide_eq_true c148
               clear c148
               obtain rfl := Option.some.inj H
               have hnb149 := NB875_841.out
               have hnc149 := NB841_875.out
               have hnb150 := NB875_858.out
               have hnc150 := NB858_875.out
               have hnb151 := NB875_866.out
               have hnc151 := NB866_875.out
               have hnb152 := NB875_906.out
               have hnc152 := NB906_875.out
               have hcz153_0 : wc.cell? ⟨gb875, 0, none⟩ = some (.int .i64 t867) := (blk_cell BK875.out 0).trans rfl
               have hcz153_1 : wc.cell? ⟨gb875, 1, none⟩ = some (.int .i64 t868) := (blk_cell BK875.out 1).trans rfl
               have hcz153_2 : wc.cell? ⟨gb875, 2, none⟩ = some (.int .i64 t869) := (blk_cell BK875.out 2).trans rfl
               have hcz153_3 : wc.cell? ⟨gb875, 3, none⟩ = some (.int .i64 t870) := (blk_cell BK875.out 3).trans rfl
               have hcz153_4 : wc.cell? ⟨gb875, 4, none⟩ = some (.slice Ao36 t889.length co36) := (blk_cell BK875.out 4).trans rfl
               have hfz153_0 := blk_frozen BK875.out 0
               have hfz153_1 := blk_frozen BK875.out 1
               have hfz153_2 := blk_frozen BK875.out 2
               have hfz153_3 := blk_frozen BK875.out 3
               have hfz153_4 := blk_frozen BK875.out 4
               go_wp2_with (first | ((with_reducible refine gate_callee (f := 37) rfl ?_); refine goesL_ (some 90) rfl rfl Try.func37 (by kernel_rfl) rfl #[.agg #[.int .i64 t867, .int .i64 t868, .int .i64 t869, .int .i64 t870, .slice Ao36 t889.length co36], .int .i64 1] rfl (by (try simp only [List.map_toArray, List.map_cons, List.map_nil]); first | done | rfl | (simp only [List.length_drop, List.length_take]; rfl)) ?_; (with_reducible refine (laws_heldAxis.calls kj102 t867 t868 t869 t870 _ _ t889 1 t908 _ ?side1 ?side2 A147.out).mono ?_); (case side1 => repeat (first | exact (Kd.R_reads' HO_876004.out).2.2 | (with_reducible refine Kd.C_alloc ?_ _) | (with_reducible refine Kd.C_drewN ?_ _) | (with_reducible refine Kd.C_drew ?_))); (case side2 => exact (Kd.R_reads' HO_876004.out).2.1); rintro e w154 ⟨rfl, hb⟩; refine ⟨_, rfl, ?_⟩; have n0_ := Aside0.mk (Kd.R_below (by (with_reducible repeat (first | apply Kd.R_alloc | apply Kd.R_drewN | apply Kd.R_drew)); exact HO_859004.out) hb); have n1_ := Aside0.mk (Kd.R_below (by (with_reducible repeat (first | apply Kd.R_alloc | apply Kd.R_drewN | apply Kd.R_drew)); exact HO_867004.out) hb); have n2_ := Aside0.mk (Kd.R_below (by (with_reducible repeat (first | apply Kd.R_alloc | apply Kd.R_drewN | apply Kd.R_drew)); exact HO_876004.out) hb); have n3_ := Aside0.mk (Kd.R_below (by (with_reducible repeat (first | apply Kd.R_alloc | apply Kd.R_drewN | apply Kd.R_drew)); exact HO_907004.out) hb); have n4_ := Aside0.mk (blk_below (g := gb841) (o := .cells #[.int .i64 a0_0, .int .i64 a0_1, .int .i64 a0_2, .int .i64 a0_3, .slice A0_4 l0_4.length c0_4] 26 (0, 0)) (by (with_reducible repeat (first | refine blk_drewN ?_ _ | refine blk_drew ?_ | refine blk_alloc ?_ _)); exact BK841.out) hb); have n5_ := Aside0.mk (blk_below (g := gb858) (o := .cells #[.int .i64 t850, .int .i64 t851, .int .i64 t852, .int .i64 t853, .slice Ao22 t854.length co22] 33 (0, 0)) (by (with_reducible repeat (first | refine blk_drewN ?_ _ | refine blk_drew ?_ | refine blk_alloc ?_ _)); exact BK858.out) hb); have n6_ := Aside0.mk (blk_below (g := gb866) (o := .cells #[.int .i64 t859, .int .i64 t860, .int .i64 t861, .int .i64 t862, .slice Ao29 t886.length co29] 33 (0, 0)) (by (with_reducible repeat (first | refine blk_drewN ?_ _ | refine blk_drew ?_ | refine blk_alloc ?_ _)); exact BK866.out) hb); have n7_ := Aside0.mk (blk_below (g := gb875) (o := .cells #[.int .i64 t867, .int .i64 t868, .int .i64 t869, .int .i64 t870, .slice Ao36 t889.length co36] 33 (0, 0)) (by (with_reducible repeat (first | refine blk_drewN ?_ _ | refine blk_drew ?_ | refine blk_alloc ?_ _)); exact BK875.out) hb); have n8_ := Aside0.mk (blk_below (g := gb906) (o := .cells #[.int .i64 t898, .int .i64 t899, .int .i64 t900, .int .i64 t901, .slice Ao123 t902.length co123] 33 (0, 0)) (by (with_reducible repeat (first | refine blk_drewN ?_ _ | refine blk_drew ?_ | refine blk_alloc ?_ _)); exact BK906.out) hb); have n9_ := Aside0.mk (below_step (by repeat (first | (with_reducible first | exact HB.out | apply below_alloc | apply pw_below_drewN | apply below_drew1 | refine below_set ?_ GE841.out | refine below_set ?_ GE858.out | refine below_set ?_ GE866.out | refine below_set ?_ GE875.out | refine below_set ?_ GE906.out) | exact HB.out)) hb); clear HO_859004; clear HO_867004; clear HO_876004; clear HO_907004; clear BK841; clear BK858; clear BK866; clear BK875; clear BK906; clear HB; have HO_859004 := n0_; have HO_867004 := n1_; have HO_876004 := n2_; have HO_907004 := n3_; have BK841 := n4_; have BK858 := n5_; have BK866 := n6_; have BK875 := n7_; have BK906 := n8_; have HB := n9_; clear n0_ n1_ n2_ n3_ n4_ n5_ n6_ n7_ n8_ n9_; (try clear hb); (try clear hb2); (try clear hk); (try clear hi)))
               go_ret
               exact ⟨by first | rfl | (simp [errW_none, errW_some] <;> rfl) | (simp [*, errW_none, errW_some] <;> rfl), by repeat (first | (with_reducible first | exact HB.out | apply below_alloc | apply pw_below_drewN | apply below_drew1 | refine below_set ?_ GE841.out | refine below_set ?_ GE858.out | refine below_set ?_ GE866.out | refine below_set ?_ GE875.out | refine below_set ?_ GE906.out) | exact HB.out)⟩
              ·rw [if_neg c148] at H
               have c148b0 : decide (t908 < 0) = false := decide_eq_false c148
               clear c148
               by_cases c155 : t908 = t888
               ·rw [if_pos c155] at H
                have c155b0 : (t908 == t888) = true := beq_iff_eq.mpr c155
                have c155b1 : (t908 != t888) = false := bne_eq_false_iff_eq.mpr c155
                clear c155
                obtain rfl := Option.some.inj H
                have hnb156 := NB875_841.out
                have hnc156 := NB841_875.out
                have hnb157 := NB875_858.out
                have hnc157 := NB858_875.out
                have hnb158 := NB875_866.out
                have hnc158 := NB866_875.out
                have hnb159 := NB875_906.out
                have hnc159 := NB906_875.out
                have hcz160_0 : wc.cell? ⟨gb875, 0, none⟩ = some (.int .i64 t867) := (blk_cell BK875.out 0).trans rfl
                have hcz160_1 : wc.cell? ⟨gb875, 1, none⟩ = some (.int .i64 t868) := (blk_cell BK875.out 1).trans rfl
                have hcz160_2 : wc.cell? ⟨gb875, 2, none⟩ = some (.int .i64 t869) := (blk_cell BK875.out 2).trans rfl
                have hcz160_3 : wc.cell? ⟨gb875, 3, none⟩ = some (.int .i64 t870) := (blk_cell BK875.out 3).trans rfl
                have hcz160_4 : wc.cell? ⟨gb875, 4, none⟩ = some (.slice Ao36 t889.length co36) := (blk_cell BK875.out 4).trans rfl
                have hfz160_0 := blk_frozen BK875.out 0
                have hfz160_1 := blk_frozen BK875.out 1
                have hfz160_2 := blk_frozen BK875.out 2
                have hfz160_3 := blk_frozen BK875.out 3
                have hfz160_4 := blk_frozen BK875.out 4
                go_wp2_with (first | ((with_reducible refine gate_callee (f := 37) rfl ?_); refine goesL_ (some 90) rfl rfl Try.func37 (by kernel_rfl) rfl #[.agg #[.int .i64 t867, .int .i64 t868, .int .i64 t869, .int .i64 t870, .slice Ao36 t889.length co36], .int .i64 1] rfl (by (try simp only [List.map_toArray, List.map_cons, List.map_nil]); first | done | rfl | (simp only [List.length_drop, List.length_take]; rfl)) ?_; (with_reducible refine (laws_heldAxis.calls kj102 t867 t868 t869 t870 _ _ t889 1 t908 _ ?side1 ?side2 A147.out).mono ?_); (case side1 => repeat (first | exact (Kd.R_reads' HO_876004.out).2.2 | (with_reducible refine Kd.C_alloc ?_ _) | (with_reducible refine Kd.C_drewN ?_ _) | (with_reducible refine Kd.C_drew ?_))); (case side2 => exact (Kd.R_reads' HO_876004.out).2.1); rintro e w161 ⟨rfl, hb⟩; refine ⟨_, rfl, ?_⟩; have n0_ := Aside0.mk (Kd.R_below (by (with_reducible repeat (first | apply Kd.R_alloc | apply Kd.R_drewN | apply Kd.R_drew)); exact HO_859004.out) hb); have n1_ := Aside0.mk (Kd.R_below (by (with_reducible repeat (first | apply Kd.R_alloc | apply Kd.R_drewN | apply Kd.R_drew)); exact HO_867004.out) hb); have n2_ := Aside0.mk (Kd.R_below (by (with_reducible repeat (first | apply Kd.R_alloc | apply Kd.R_drewN | apply Kd.R_drew)); exact HO_876004.out) hb); have n3_ := Aside0.mk (Kd.R_below (by (with_reducible repeat (first | apply Kd.R_alloc | apply Kd.R_drewN | apply Kd.R_drew)); exact HO_907004.out) hb); have n4_ := Aside0.mk (blk_below (g := gb841) (o := .cells #[.int .i64 a0_0, .int .i64 a0_1, .int .i64 a0_2, .int .i64 a0_3, .slice A0_4 l0_4.length c0_4] 26 (0, 0)) (by (with_reducible repeat (first | refine blk_drewN ?_ _ | refine blk_drew ?_ | refine blk_alloc ?_ _)); exact BK841.out) hb); have n5_ := Aside0.mk (blk_below (g := gb858) (o := .cells #[.int .i64 t850, .int .i64 t851, .int .i64 t852, .int .i64 t853, .slice Ao22 t854.length co22] 33 (0, 0)) (by (with_reducible repeat (first | refine blk_drewN ?_ _ | refine blk_drew ?_ | refine blk_alloc ?_ _)); exact BK858.out) hb); have n6_ := Aside0.mk (blk_below (g := gb866) (o := .cells #[.int .i64 t859, .int .i64 t860, .int .i64 t861, .int .i64 t862, .slice Ao29 t886.length co29] 33 (0, 0)) (by (with_reducible repeat (first | refine blk_drewN ?_ _ | refine blk_drew ?_ | refine blk_alloc ?_ _)); exact BK866.out) hb); have n7_ := Aside0.mk (blk_below (g := gb875) (o := .cells #[.int .i64 t867, .int .i64 t868, .int .i64 t869, .int .i64 t870, .slice Ao36 t889.length co36] 33 (0, 0)) (by (with_reducible repeat (first | refine blk_drewN ?_ _ | refine blk_drew ?_ | refine blk_alloc ?_ _)); exact BK875.out) hb); have n8_ := Aside0.mk (blk_below (g := gb906) (o := .cells #[.int .i64 t898, .int .i64 t899, .int .i64 t900, .int .i64 t901, .slice Ao123 t902.length co123] 33 (0, 0)) (by (with_reducible repeat (first | refine blk_drewN ?_ _ | refine blk_drew ?_ | refine blk_alloc ?_ _)); exact BK906.out) hb); have n9_ := Aside0.mk (below_step (by repeat (first | (with_reducible first | exact HB.out | apply below_alloc | apply pw_below_drewN | apply below_drew1 | refine below_set ?_ GE841.out | refine below_set ?_ GE858.out | refine below_set ?_ GE866.out | refine below_set ?_ GE875.out | refine below_set ?_ GE906.out) | exact HB.out)) hb); clear HO_859004; clear HO_867004; clear HO_876004; clear HO_907004; clear BK841; clear BK858; clear BK866; clear BK875; clear BK906; clear HB; have HO_859004 := n0_; have HO_867004 := n1_; have HO_876004 := n2_; have HO_907004 := n3_; have BK841 := n4_; have BK858 := n5_; have BK866 := n6_; have BK875 := n7_; have BK906 := n8_; have HB := n9_; clear n0_ n1_ n2_ n3_ n4_ n5_ n6_ n7_ n8_ n9_; (try clear hb); (try clear hb2); (try clear hk); (try clear hi)))
                go_ret
                exact ⟨by first | rfl | (simp [errW_none, errW_some] <;> rfl) | (simp [*, errW_none, errW_some] <;> rfl), by repeat (first | (with_reducible first | exact HB.out | apply below_alloc | apply pw_below_drewN | apply below_drew1 | refine below_set ?_ GE841.out | refine below_set ?_ GE858.out | refine below_set ?_ GE866.out | refine below_set ?_ GE875.out | refine below_set ?_ GE906.out) | exact HB.out)⟩
               ·rw [if_neg c155] at H
                have c155b0 : (t908 == t888) = false := beq_eq_false_iff_ne.mpr c155
                have c155b1 : (t908 != t888) = true := bne_iff_ne.mpr c155
                obtain rfl := Option.some.inj H
                have hnb162 := NB875_841.out
                have hnc162 := NB841_875.out
                have hnb163 := NB875_858.out
                have hnc163 := NB858_875.out
                have hnb164 := NB875_866.out
                have hnc164 := NB866_875.out
                have hnb165 := NB875_906.out
                have hnc165 := NB906_875.out
                have hcz166_0 : wc.cell? ⟨gb875, 0, none⟩ = some (.int .i64 t867) := (blk_cell BK875.out 0).trans rfl
                have hcz166_1 : wc.cell? ⟨gb875, 1, none⟩ = some (.int .i64 t868) := (blk_cell BK875.out 1).trans rfl
                have hcz166_2 : wc.cell? ⟨gb875, 2, none⟩ = some (.int .i64 t869) := (blk_cell BK875.out 2).trans rfl
                have hcz166_3 : wc.cell? ⟨gb875, 3, none⟩ = some (.int .i64 t870) := (blk_cell BK875.out 3).trans rfl
                have hcz166_4 : wc.cell? ⟨gb875, 4, none⟩ = some (.slice Ao36 t889.length co36) := (blk_cell BK875.out 4).trans rfl
                have hfz166_0 := blk_frozen BK875.out 0
                have hfz166_1 := blk_frozen BK875.out 1
                have hfz166_2 := blk_frozen BK875.out 2
                have hfz166_3 := blk_frozen BK875.out 3
                have hfz166_4 := blk_frozen BK875.out 4
                go_wp2_with (first | ((with_reducible refine gate_callee (f := 37) rfl ?_); refine goesL_ (some 90) rfl rfl Try.func37 (by kernel_rfl) rfl #[.agg #[.int .i64 t867, .int .i64 t868, .int .i64 t869, .int .i64 t870, .slice Ao36 t889.length co36], .int .i64 1] rfl (by (try simp only [List.map_toArray, List.map_cons, List.map_nil]); first | done | rfl | (simp only [List.length_drop, List.length_take]; rfl)) ?_; (with_reducible refine (laws_heldAxis.calls kj102 t867 t868 t869 t870 _ _ t889 1 t908 _ ?side1 ?side2 A147.out).mono ?_); (case side1 => repeat (first | exact (Kd.R_reads' HO_876004.out).2.2 | (with_reducible refine Kd.C_alloc ?_ _) | (with_reducible refine Kd.C_drewN ?_ _) | (with_reducible refine Kd.C_drew ?_))); (case side2 => exact (Kd.R_reads' HO_876004.out).2.1); rintro e w167 ⟨rfl, hb⟩; refine ⟨_, rfl, ?_⟩; have n0_ := Aside0.mk (Kd.R_below (by (with_reducible repeat (first | apply Kd.R_alloc | apply Kd.R_drewN | apply Kd.R_drew)); exact HO_859004.out) hb); have n1_ := Aside0.mk (Kd.R_below (by (with_reducible repeat (first | apply Kd.R_alloc | apply Kd.R_drewN | apply Kd.R_drew)); exact HO_867004.out) hb); have n2_ := Aside0.mk (Kd.R_below (by (with_reducible repeat (first | apply Kd.R_alloc | apply Kd.R_drewN | apply Kd.R_drew)); exact HO_876004.out) hb); have n3_ := Aside0.mk (Kd.R_below (by (with_reducible repeat (first | apply Kd.R_alloc | apply Kd.R_drewN | apply Kd.R_drew)); exact HO_907004.out) hb); have n4_ := Aside0.mk (blk_below (g := gb841) (o := .cells #[.int .i64 a0_0, .int .i64 a0_1, .int .i64 a0_2, .int .i64 a0_3, .slice A0_4 l0_4.length c0_4] 26 (0, 0)) (by (with_reducible repeat (first | refine blk_drewN ?_ _ | refine blk_drew ?_ | refine blk_alloc ?_ _)); exact BK841.out) hb); have n5_ := Aside0.mk (blk_below (g := gb858) (o := .cells #[.int .i64 t850, .int .i64 t851, .int .i64 t852, .int .i64 t853, .slice Ao22 t854.length co22] 33 (0, 0)) (by (with_reducible repeat (first | refine blk_drewN ?_ _ | refine blk_drew ?_ | refine blk_alloc ?_ _)); exact BK858.out) hb); have n6_ := Aside0.mk (blk_below (g := gb866) (o := .cells #[.int .i64 t859, .int .i64 t860, .int .i64 t861, .int .i64 t862, .slice Ao29 t886.length co29] 33 (0, 0)) (by (with_reducible repeat (first | refine blk_drewN ?_ _ | refine blk_drew ?_ | refine blk_alloc ?_ _)); exact BK866.out) hb); have n7_ := Aside0.mk (blk_below (g := gb875) (o := .cells #[.int .i64 t867, .int .i64 t868, .int .i64 t869, .int .i64 t870, .slice Ao36 t889.length co36] 33 (0, 0)) (by (with_reducible repeat (first | refine blk_drewN ?_ _ | refine blk_drew ?_ | refine blk_alloc ?_ _)); exact BK875.out) hb); have n8_ := Aside0.mk (blk_below (g := gb906) (o := .cells #[.int .i64 t898, .int .i64 t899, .int .i64 t900, .int .i64 t901, .slice Ao123 t902.length co123] 33 (0, 0)) (by (with_reducible repeat (first | refine blk_drewN ?_ _ | refine blk_drew ?_ | refine blk_alloc ?_ _)); exact BK906.out) hb); have n9_ := Aside0.mk (below_step (by repeat (first | (with_reducible first | exact HB.out | apply below_alloc | apply pw_below_drewN | apply below_drew1 | refine below_set ?_ GE841.out | refine below_set ?_ GE858.out | refine below_set ?_ GE866.out | refine below_set ?_ GE875.out | refine below_set ?_ GE906.out) | exact HB.out)) hb); clear HO_859004; clear HO_867004; clear HO_876004; clear HO_907004; clear BK841; clear BK858; clear BK866; clear BK875; clear BK906; clear HB; have HO_859004 := n0_; have HO_867004 := n1_; have HO_876004 := n2_; have HO_907004 := n3_; have BK841 := n4_; have BK858 := n5_; have BK866 := n6_; have BK875 := n7_; have BK906 := n8_; have HB := n9_; clear n0_ n1_ n2_ n3_ n4_ n5_ n6_ n7_ n8_ n9_; (try clear hb); (try clear hb2); (try clear hk); (try clear hi)))
                go_ret
                exact ⟨by first | rfl | (simp [errW_none, errW_some] <;> rfl) | (simp [*, errW_none, errW_some] <;> rfl), by repeat (first | (with_reducible first | exact HB.out | apply below_alloc | apply pw_below_drewN | apply below_drew1 | refine below_set ?_ GE841.out | refine below_set ?_ GE858.out | refine below_set ?_ GE866.out | refine below_set ?_ GE875.out | refine below_set ?_ GE906.out) | exact HB.out)⟩
          ·rw [if_neg c100] at H
           have c100b0 : (t890 == t888) = false := beq_eq_false_iff_ne.mpr c100
           have c100b1 : (t890 != t888) = true := bne_iff_ne.mpr c100
           obtain rfl := Option.some.inj H
           have hnb168 := NB875_841.out
           have hnc168 := NB841_875.out
           have hnb169 := NB875_858.out
           have hnc169 := NB858_875.out
           have hnb170 := NB875_866.out
           have hnc170 := NB866_875.out
           have hcz171_0 : wc.cell? ⟨gb875, 0, none⟩ = some (.int .i64 t867) := (blk_cell BK875.out 0).trans rfl
           have hcz171_1 : wc.cell? ⟨gb875, 1, none⟩ = some (.int .i64 t868) := (blk_cell BK875.out 1).trans rfl
           have hcz171_2 : wc.cell? ⟨gb875, 2, none⟩ = some (.int .i64 t869) := (blk_cell BK875.out 2).trans rfl
           have hcz171_3 : wc.cell? ⟨gb875, 3, none⟩ = some (.int .i64 t870) := (blk_cell BK875.out 3).trans rfl
           have hcz171_4 : wc.cell? ⟨gb875, 4, none⟩ = some (.slice Ao36 t871.length co36) := (blk_cell BK875.out 4).trans rfl
           have hfz171_0 := blk_frozen BK875.out 0
           have hfz171_1 := blk_frozen BK875.out 1
           have hfz171_2 := blk_frozen BK875.out 2
           have hfz171_3 := blk_frozen BK875.out 3
           have hfz171_4 := blk_frozen BK875.out 4
           go_wp2_with (first | ((with_reducible refine gate_callee (f := 36) rfl ?_); refine goesL_ (some 64) rfl rfl Try.func36 (by kernel_rfl) rfl #[.agg #[.int .i64 t867, .int .i64 t868, .int .i64 t869, .int .i64 t870, .slice Ao36 t871.length co36], .int .i64 1] rfl (by (try simp only [List.map_toArray, List.map_cons, List.map_nil]); first | done | rfl | (simp only [List.length_drop, List.length_take]; rfl)) ?_; (with_reducible refine (laws_markAxis.calls kj59 t867 t868 t869 t870 (fun k_ => some k_ = (.slice Ao36 t871.length co36 : Value).ownBlock) (.slice Ao36 t871.length co36) t871 1 t888 t889 w _ ?side1 ?side2 A90.out).mono ?_); (case side1 => repeat (first | (with_reducible first | exact HB.out | apply below_alloc | apply pw_below_drewN | apply below_drew1 | refine below_set ?_ GE841.out | refine below_set ?_ GE858.out | refine below_set ?_ GE866.out | refine below_set ?_ GE875.out) | exact HB.out)); (case side2 => exact Kd.R_tight rfl HO_876004.out); rintro e w172 ⟨rfl, hy0, hb, hkp⟩; refine ⟨_, rfl, ?_⟩; have n0_ := Aside0.mk (Kd.R_mono (ok' := fun k_ => some k_ ≠ (.slice Ao29 t886.length co29 : Value).ownBlock ∧ some k_ ≠ (.slice Ao36 t871.length co36 : Value).ownBlock) (Kd.R_keptB (HO_859004.out) hkp (fun k_ hk_ hs_ => (hk_.2) hs_)) (fun k_ hk_ => ⟨hk_.1.1, hk_.1.2⟩)); have n1_ := Aside0.mk (Kd.R_mono (ok' := fun k_ => some k_ ≠ (.slice Ao22 t854.length co22 : Value).ownBlock ∧ some k_ ≠ (.slice Ao36 t871.length co36 : Value).ownBlock) (Kd.R_keptB (HO_867004.out) hkp (fun k_ hk_ hs_ => (hk_.2) hs_)) (fun k_ hk_ => ⟨hk_.1.1, hk_.1.2⟩)); have n2_ := Aside0.mk (Kd.R_reok rfl hy0 (fun k_ e_ => HO_876004.out.1 k_ e_)); have n3_ := Aside0.mk (blk_kept (by (with_reducible repeat (first | refine blk_drewN ?_ _ | refine blk_drew ?_ | refine blk_alloc ?_ _)); exact BK841.out) hkp (fun hs_ => (fun e_ => (Kd.R_ne HO_876004.out BK841.out (by decide)) e_) hs_)); have n4_ := Aside0.mk (blk_kept (by (with_reducible repeat (first | refine blk_drewN ?_ _ | refine blk_drew ?_ | refine blk_alloc ?_ _)); exact BK858.out) hkp (fun hs_ => (fun e_ => (Kd.R_ne HO_876004.out BK858.out (by decide)) e_) hs_)); have n5_ := Aside0.mk (blk_kept (by (with_reducible repeat (first | refine blk_drewN ?_ _ | refine blk_drew ?_ | refine blk_alloc ?_ _)); exact BK866.out) hkp (fun hs_ => (fun e_ => (Kd.R_ne HO_876004.out BK866.out (by decide)) e_) hs_)); have n6_ := Aside0.mk (blk_kept (by (with_reducible repeat (first | refine blk_drewN ?_ _ | refine blk_drew ?_ | refine blk_alloc ?_ _)); exact BK875.out) hkp (fun hs_ => (fun e_ => (Kd.R_ne HO_876004.out BK875.out (by decide)) e_) hs_)); have n7_ := Aside0.mk (hb); clear HO_859004; clear HO_867004; clear HO_876004; clear BK841; clear BK858; clear BK866; clear BK875; clear HB; have HO_859004 := n0_; have HO_867004 := n1_; have HO_876004 := n2_; have BK841 := n3_; have BK858 := n4_; have BK866 := n5_; have BK875 := n6_; have HB := n7_; clear n0_ n1_ n2_ n3_ n4_ n5_ n6_ n7_; (try clear hb); (try clear hkp); (try clear hy0); have hcz173_0 : w172.cell? ⟨gb875, 0, none⟩ = some (.int .i64 t867) := (blk_cell BK875.out 0).trans rfl; have hcz173_1 : w172.cell? ⟨gb875, 1, none⟩ = some (.int .i64 t868) := (blk_cell BK875.out 1).trans rfl; have hcz173_2 : w172.cell? ⟨gb875, 2, none⟩ = some (.int .i64 t869) := (blk_cell BK875.out 2).trans rfl; have hcz173_3 : w172.cell? ⟨gb875, 3, none⟩ = some (.int .i64 t870) := (blk_cell BK875.out 3).trans rfl; have hcz173_4 : w172.cell? ⟨gb875, 4, none⟩ = some (.slice Ao36 t871.length co36) := (blk_cell BK875.out 4).trans rfl; have hfz173_0 := blk_frozen BK875.out 0; have hfz173_1 := blk_frozen BK875.out 1; have hfz173_2 := blk_frozen BK875.out 2; have hfz173_3 := blk_frozen BK875.out 3; have hfz173_4 := blk_frozen BK875.out 4) | ((with_reducible refine gate_callee (f := 37) rfl ?_); refine goesL_ (some 67) rfl rfl Try.func37 (by kernel_rfl) rfl #[.agg #[.int .i64 t867, .int .i64 t868, .int .i64 t869, .int .i64 t870, .slice Ao36 t889.length co36], .int .i64 1] rfl (by (try simp only [List.map_toArray, List.map_cons, List.map_nil]); first | done | (rw [show t889.length = t871.length from (Kd.R_reads' HO_876004.out).1.symm] <;> rfl) | rfl | (simp only [List.length_drop, List.length_take]; rfl)) ?_; (with_reducible refine (laws_heldAxis.calls kj59 t867 t868 t869 t870 _ _ t889 1 t890 _ ?side1 ?side2 A91.out).mono ?_); (case side1 => repeat (first | exact (Kd.R_reads' HO_876004.out).2.2 | (with_reducible refine Kd.C_alloc ?_ _) | (with_reducible refine Kd.C_drewN ?_ _) | (with_reducible refine Kd.C_drew ?_))); (case side2 => rw [show t889.length = t871.length from (Kd.R_reads' HO_876004.out).1.symm]; exact (Kd.R_reads' HO_876004.out).2.1); rintro e w174 ⟨rfl, hb⟩; refine ⟨_, rfl, ?_⟩; have n0_ := Aside0.mk (Kd.R_below (by (with_reducible repeat (first | apply Kd.R_alloc | apply Kd.R_drewN | apply Kd.R_drew)); exact HO_859004.out) hb); have n1_ := Aside0.mk (Kd.R_below (by (with_reducible repeat (first | apply Kd.R_alloc | apply Kd.R_drewN | apply Kd.R_drew)); exact HO_867004.out) hb); have n2_ := Aside0.mk (Kd.R_below (by (with_reducible repeat (first | apply Kd.R_alloc | apply Kd.R_drewN | apply Kd.R_drew)); exact HO_876004.out) hb); have n3_ := Aside0.mk (blk_below (g := gb841) (o := .cells #[.int .i64 a0_0, .int .i64 a0_1, .int .i64 a0_2, .int .i64 a0_3, .slice A0_4 l0_4.length c0_4] 26 (0, 0)) (by (with_reducible repeat (first | refine blk_drewN ?_ _ | refine blk_drew ?_ | refine blk_alloc ?_ _)); exact BK841.out) hb); have n4_ := Aside0.mk (blk_below (g := gb858) (o := .cells #[.int .i64 t850, .int .i64 t851, .int .i64 t852, .int .i64 t853, .slice Ao22 t854.length co22] 33 (0, 0)) (by (with_reducible repeat (first | refine blk_drewN ?_ _ | refine blk_drew ?_ | refine blk_alloc ?_ _)); exact BK858.out) hb); have n5_ := Aside0.mk (blk_below (g := gb866) (o := .cells #[.int .i64 t859, .int .i64 t860, .int .i64 t861, .int .i64 t862, .slice Ao29 t886.length co29] 33 (0, 0)) (by (with_reducible repeat (first | refine blk_drewN ?_ _ | refine blk_drew ?_ | refine blk_alloc ?_ _)); exact BK866.out) hb); have n6_ := Aside0.mk (blk_below (g := gb875) (o := .cells #[.int .i64 t867, .int .i64 t868, .int .i64 t869, .int .i64 t870, .slice Ao36 t871.length co36] 33 (0, 0)) (by (with_reducible repeat (first | refine blk_drewN ?_ _ | refine blk_drew ?_ | refine blk_alloc ?_ _)); exact BK875.out) hb); have n7_ := Aside0.mk (below_step (by repeat (first | (with_reducible first | exact HB.out | apply below_alloc | apply pw_below_drewN | apply below_drew1 | refine below_set ?_ GE841.out | refine below_set ?_ GE858.out | refine below_set ?_ GE866.out | refine below_set ?_ GE875.out) | exact HB.out)) hb); clear HO_859004; clear HO_867004; clear HO_876004; clear BK841; clear BK858; clear BK866; clear BK875; clear HB; have HO_859004 := n0_; have HO_867004 := n1_; have HO_876004 := n2_; have BK841 := n3_; have BK858 := n4_; have BK866 := n5_; have BK875 := n6_; have HB := n7_; clear n0_ n1_ n2_ n3_ n4_ n5_ n6_ n7_; (try clear hb); (try clear hb2); (try clear hk); (try clear hi)))
           go_ret
           exact ⟨by first | rfl | (simp [errW_none, errW_some] <;> rfl) | (simp [*, errW_none, errW_some] <;> rfl), by repeat (first | (with_reducible first | exact HB.out | apply below_alloc | apply pw_below_drewN | apply below_drew1 | refine below_set ?_ GE841.out | refine below_set ?_ GE858.out | refine below_set ?_ GE866.out | refine below_set ?_ GE875.out) | exact HB.out)⟩
     ·replace c58 := Bool.eq_false_iff.mpr c58
      subst c58
      have H1 : (some false) = some r := by rw [if_neg (show ¬ (false = true) by decide)] at H; exact H
      clear H
      have H := H1
      clear H1
      obtain rfl := Option.some.inj H
      try go_wp2
      have n0_ := Aside0.mk (Kd.R_drew HO_859004.out)
      have n1_ := Aside0.mk (Kd.R_drew HO_867004.out)
      have n2_ := Aside0.mk (Kd.R_drew HO_876004.out)
      have n3_ := Aside0.mk (blk_drew BK841.out)
      have n4_ := Aside0.mk (blk_drew BK858.out)
      have n5_ := Aside0.mk (blk_drew BK866.out)
      have n6_ := Aside0.mk (blk_drew BK875.out)
      have n7_ := Aside0.mk (below_drew1 HB.out)
      clear HO_859004
      clear HO_867004
      clear HO_876004
      clear BK841
      clear BK858
      clear BK866
      clear BK875
      clear HB
      have HO_859004 := n0_
      have HO_867004 := n1_
      have HO_876004 := n2_
      have BK841 := n3_
      have BK858 := n4_
      have BK866 := n5_
      have BK875 := n6_
      have HB := n7_
      clear n0_ n1_ n2_ n3_ n4_ n5_ n6_ n7_
      refine start_ (n := 5) (S := fun w' => w'.cell? ⟨gb866, 0, none⟩ = some (.int .i64 t859) ∧ w'.cell? ⟨gb866, 1, none⟩ = some (.int .i64 t860) ∧ w'.cell? ⟨gb866, 2, none⟩ = some (.int .i64 t861) ∧ w'.cell? ⟨gb866, 3, none⟩ = some (.int .i64 t862) ∧ w'.cell? ⟨gb866, 4, none⟩ = some (.slice Ao29 t863.length co29) ∧ w'.cell? ⟨gb841, 0, none⟩ = some (.int .i64 a0_0) ∧ w'.cell? ⟨gb841, 1, none⟩ = some (.int .i64 a0_1) ∧ w'.cell? ⟨gb841, 2, none⟩ = some (.int .i64 a0_2) ∧ w'.cell? ⟨gb841, 3, none⟩ = some (.int .i64 a0_3) ∧ w'.cell? ⟨gb841, 4, none⟩ = some (.slice A0_4 l0_4.length c0_4)) (ds := []) #[false, false, false, false, false] (by kernel_rfl) rfl rfl ⟨(blk_cell BK866.out 0).trans rfl, (blk_cell BK866.out 1).trans rfl, (blk_cell BK866.out 2).trans rfl, (blk_cell BK866.out 3).trans rfl, (blk_cell BK866.out 4).trans rfl, (blk_cell BK841.out 0).trans rfl, (blk_cell BK841.out 1).trans rfl, (blk_cell BK841.out 2).trans rfl, (blk_cell BK841.out 3).trans rfl, (blk_cell BK841.out 4).trans rfl⟩ (fun hHeld => ?_)
      generalize wc.drew = w175 at HO_859004 HO_867004 HO_876004 BK841 BK858 BK866 BK875 HB hHeld ⊢
      refine take_ (i := 0) (N := some 41) (v := ?_) (a' := ?_) #[true, false, false, false, false] rfl rfl (by kernel_rfl) (fun _ _ _ h => h) (Or.inl ⟨by rfl, ?_⟩) hHeld ?_ ?_
      rotate_left
      ·rintro w' ⟨s0, s1, s2, s3, s4, s5, s6, s7, s8, s9⟩
       go_simp
       with_reducible rfl
      rotate_left
      ·simp only [Act.put, List.setIfInBounds_toArray, List.set_cons_zero, List.set_cons_succ, i64_w, i32_w]
       rfl
      refine take_ (i := 1) (N := some 42) (v := ?_) (a' := ?_) #[true, true, false, false, false] rfl rfl (by kernel_rfl) (fun _ _ _ h => h) (Or.inl ⟨by rfl, ?_⟩) hHeld ?_ ?_
      rotate_left
      ·rintro w' ⟨s0, s1, s2, s3, s4, s5, s6, s7, s8, s9⟩
       go_simp
       with_reducible rfl
      rotate_left
      ·simp only [Act.put, List.setIfInBounds_toArray, List.set_cons_zero, List.set_cons_succ, i64_w, i32_w]
       rfl
      refine one_ (i := 2) (N := some 43) #[true, true, true, false, false] rfl rfl (by kernel_rfl) (by decide) (fun K hK => ?_)
      refine goes_ Try.func17 (by kernel_rfl) rfl #[.agg #[.int .i64 a0_0, .int .i64 a0_1, .int .i64 a0_2, .int .i64 a0_3, .slice A0_4 l0_4.length c0_4]] (by rfl) rfl rfl (by (try simp only [List.map_toArray, List.map_cons, List.map_nil]); first | done | rfl | (simp only [List.length_drop, List.length_take]; rfl)) ?_
      with_reducible refine (laws_toAxis.calls kj10 a0_0 a0_1 a0_2 a0_3 _ _ l0_4 t877 t878 t879 t880 t881 _ ?side1 ?side2 A56.out).mono ?_
      (case side1 => repeat (first | exact (Kd.C_below HR0_4.out HB.out) | (with_reducible refine Kd.C_alloc ?_ _) | (with_reducible refine Kd.C_drewN ?_ _) | (with_reducible refine Kd.C_drew ?_)))
      (case side2 => exact HC0_4.out)
      rintro e w176 ⟨v882, rfl, ho0, hb⟩
      refine ⟨_, rfl, ?_⟩
      have n0_ := Aside0.mk (Kd.R_elder' (by (with_reducible repeat (first | apply Kd.R_alloc | apply Kd.R_drewN | apply Kd.R_drew)); exact HO_859004.out) (Kd.R_base ho0) hb)
      have n1_ := Aside0.mk (Kd.R_elder' (by (with_reducible repeat (first | apply Kd.R_alloc | apply Kd.R_drewN | apply Kd.R_drew)); exact HO_867004.out) (Kd.R_base ho0) hb)
      have n2_ := Aside0.mk (Kd.R_elder' (by (with_reducible repeat (first | apply Kd.R_alloc | apply Kd.R_drewN | apply Kd.R_drew)); exact HO_876004.out) (Kd.R_base ho0) hb)
      have n3_ := Aside0.mk (Kd.R_lower (Kd.R_new' (Kd.R_new' (Kd.R_new' ho0 (Kd.R_lt (by (with_reducible repeat (first | apply Kd.R_alloc | apply Kd.R_drewN | apply Kd.R_drew)); exact HO_859004.out))) (Kd.R_lt (by (with_reducible repeat (first | apply Kd.R_alloc | apply Kd.R_drewN | apply Kd.R_drew)); exact HO_867004.out))) (Kd.R_lt (by (with_reducible repeat (first | apply Kd.R_alloc | apply Kd.R_drewN | apply Kd.R_drew)); exact HO_876004.out))) (below_size (by repeat (first | (with_reducible first | exact HB.out | apply below_alloc | apply pw_below_drewN | apply below_drew1 | refine below_set ?_ GE841.out | refine below_set ?_ GE858.out | refine below_set ?_ GE866.out | refine below_set ?_ GE875.out) | exact HB.out))))
      have n4_ := Aside0.mk (blk_below (g := gb841) (o := .cells #[.int .i64 a0_0, .int .i64 a0_1, .int .i64 a0_2, .int .i64 a0_3, .slice A0_4 l0_4.length c0_4] 26 (0, 0)) (by (with_reducible repeat (first | refine blk_drewN ?_ _ | refine blk_drew ?_ | refine blk_alloc ?_ _)); exact BK841.out) hb)
      have n5_ := Aside0.mk (blk_below (g := gb858) (o := .cells #[.int .i64 t850, .int .i64 t851, .int .i64 t852, .int .i64 t853, .slice Ao22 t854.length co22] 33 (0, 0)) (by (with_reducible repeat (first | refine blk_drewN ?_ _ | refine blk_drew ?_ | refine blk_alloc ?_ _)); exact BK858.out) hb)
      have n6_ := Aside0.mk (blk_below (g := gb866) (o := .cells #[.int .i64 t859, .int .i64 t860, .int .i64 t861, .int .i64 t862, .slice Ao29 t863.length co29] 33 (0, 0)) (by (with_reducible repeat (first | refine blk_drewN ?_ _ | refine blk_drew ?_ | refine blk_alloc ?_ _)); exact BK866.out) hb)
      have n7_ := Aside0.mk (blk_below (g := gb875) (o := .cells #[.int .i64 t867, .int .i64 t868, .int .i64 t869, .int .i64 t870, .slice Ao36 t871.length co36] 33 (0, 0)) (by (with_reducible repeat (first | refine blk_drewN ?_ _ | refine blk_drew ?_ | refine blk_alloc ?_ _)); exact BK875.out) hb)
      have n8_ := Aside0.mk (below_step (by repeat (first | (with_reducible first | exact HB.out | apply below_alloc | apply pw_below_drewN | apply below_drew1 | refine below_set ?_ GE841.out | refine below_set ?_ GE858.out | refine below_set ?_ GE866.out | refine below_set ?_ GE875.out) | exact HB.out)) hb)
      clear HO_859004
      clear HO_867004
      clear HO_876004
      clear BK841
      clear BK858
      clear BK866
      clear BK875
      clear HB
      have HO_859004 := n0_
      have HO_867004 := n1_
      have HO_876004 := n2_
      have HO883 := n3_
      have BK841 := n4_
      have BK858 := n5_
      have BK866 := n6_
      have BK875 := n7_
      have HB := n8_
      clear n0_ n1_ n2_ n3_ n4_ n5_ n6_ n7_ n8_
      (try clear hb)
      (try clear hb2)
      (try clear hk)
      (try clear hi)
      (try clear ho0)
      obtain ⟨Ao177, co177, eo177⟩ := Kd.R_slice HO883.out
      (first | subst eo177 | (injection eo177 with f1_ f2_ f3_; have f4_ := f1_.symm; have f5_ := f3_.symm; clear f1_ f2_ f3_; subst f4_; subst f5_))
      refine hK.out _ _ ⟨(blk_cell BK866.out 0).trans rfl, (blk_cell BK866.out 1).trans rfl, (blk_cell BK866.out 2).trans rfl, (blk_cell BK866.out 3).trans rfl, (blk_cell BK866.out 4).trans rfl, (blk_cell BK841.out 0).trans rfl, (blk_cell BK841.out 1).trans rfl, (blk_cell BK841.out 2).trans rfl, (blk_cell BK841.out 3).trans rfl, (blk_cell BK841.out 4).trans rfl⟩ (fun hHeld => ?_)
      clear hK K
      refine norm_ (a' := ?_) ?_ ?_
      rotate_left
      ·show Act.put _ (some 43) _ = _
       simp only [Act.put, List.setIfInBounds_toArray, List.set_cons_zero, List.set_cons_succ, i64_w, i32_w]
       rfl
      refine one_ (i := 3) (N := some 44) #[true, true, true, true, false] rfl rfl (by kernel_rfl) (by decide) (fun K hK => ?_)
      refine goes_ Try.func20 (by kernel_rfl) rfl #[.agg #[.int .i64 t859, .int .i64 t860, .int .i64 t861, .int .i64 t862, .slice Ao29 t863.length co29], .agg #[.int .i64 t877, .int .i64 t878, .int .i64 t879, .int .i64 t880, .slice Ao177 t881.length co177]] (by rfl) rfl rfl (by (try simp only [List.map_toArray, List.map_cons, List.map_nil]); first | done | rfl | (simp only [List.length_drop, List.length_take]; rfl)) ?_
      with_reducible refine (laws_eqAxis.calls kj10 t859 t860 t861 t862 _ _ t863 t877 t878 t879 t880 _ _ t881 false _ ?side1 ?side2 ?side3 ?side4 A57.out).mono ?_
      (case side1 => repeat (first | exact (Kd.R_reads' HO_867004.out).2.2 | (with_reducible refine Kd.C_alloc ?_ _) | (with_reducible refine Kd.C_drewN ?_ _) | (with_reducible refine Kd.C_drew ?_)))
      (case side2 => exact (Kd.R_reads' HO_867004.out).2.1)
      (case side3 => repeat (first | exact (Kd.R_reads' HO883.out).2.2 | (with_reducible refine Kd.C_alloc ?_ _) | (with_reducible refine Kd.C_drewN ?_ _) | (with_reducible refine Kd.C_drew ?_)))
      (case side4 => exact (Kd.R_reads' HO883.out).2.1)
      rintro e w178 ⟨rfl, hb⟩
      refine ⟨_, rfl, ?_⟩
      have n0_ := Aside0.mk (Kd.R_below (by (with_reducible repeat (first | apply Kd.R_alloc | apply Kd.R_drewN | apply Kd.R_drew)); exact HO_859004.out) hb)
      have n1_ := Aside0.mk (Kd.R_below (by (with_reducible repeat (first | apply Kd.R_alloc | apply Kd.R_drewN | apply Kd.R_drew)); exact HO_867004.out) hb)
      have n2_ := Aside0.mk (Kd.R_below (by (with_reducible repeat (first | apply Kd.R_alloc | apply Kd.R_drewN | apply Kd.R_drew)); exact HO_876004.out) hb)
      have n3_ := Aside0.mk (Kd.R_below (by (with_reducible repeat (first | apply Kd.R_alloc | apply Kd.R_drewN | apply Kd.R_drew)); exact HO883.out) hb)
      have n4_ := Aside0.mk (blk_below (g := gb841) (o := .cells #[.int .i64 a0_0, .int .i64 a0_1, .int .i64 a0_2, .int .i64 a0_3, .slice A0_4 l0_4.length c0_4] 26 (0, 0)) (by (with_reducible repeat (first | refine blk_drewN ?_ _ | refine blk_drew ?_ | refine blk_alloc ?_ _)); exact BK841.out) hb)
      have n5_ := Aside0.mk (blk_below (g := gb858) (o := .cells #[.int .i64 t850, .int .i64 t851, .int .i64 t852, .int .i64 t853, .slice Ao22 t854.length co22] 33 (0, 0)) (by (with_reducible repeat (first | refine blk_drewN ?_ _ | refine blk_drew ?_ | refine blk_alloc ?_ _)); exact BK858.out) hb)
      have n6_ := Aside0.mk (blk_below (g := gb866) (o := .cells #[.int .i64 t859, .int .i64 t860, .int .i64 t861, .int .i64 t862, .slice Ao29 t863.length co29] 33 (0, 0)) (by (with_reducible repeat (first | refine blk_drewN ?_ _ | refine blk_drew ?_ | refine blk_alloc ?_ _)); exact BK866.out) hb)
      have n7_ := Aside0.mk (blk_below (g := gb875) (o := .cells #[.int .i64 t867, .int .i64 t868, .int .i64 t869, .int .i64 t870, .slice Ao36 t871.length co36] 33 (0, 0)) (by (with_reducible repeat (first | refine blk_drewN ?_ _ | refine blk_drew ?_ | refine blk_alloc ?_ _)); exact BK875.out) hb)
      have n8_ := Aside0.mk (below_step (by repeat (first | (with_reducible first | exact HB.out | apply below_alloc | apply pw_below_drewN | apply below_drew1 | refine below_set ?_ GE841.out | refine below_set ?_ GE858.out | refine below_set ?_ GE866.out | refine below_set ?_ GE875.out) | exact HB.out)) hb)
      clear HO_859004
      clear HO_867004
      clear HO_876004
      clear HO883
      clear BK841
      clear BK858
      clear BK866
      clear BK875
      clear HB
      have HO_859004 := n0_
      have HO_867004 := n1_
      have HO_876004 := n2_
      have HO883 := n3_
      have BK841 := n4_
      have BK858 := n5_
      have BK866 := n6_
      have BK875 := n7_
      have HB := n8_
      clear n0_ n1_ n2_ n3_ n4_ n5_ n6_ n7_ n8_
      (try clear hb)
      (try clear hb2)
      (try clear hk)
      (try clear hi)
      refine hK.out _ _ ⟨(blk_cell BK866.out 0).trans rfl, (blk_cell BK866.out 1).trans rfl, (blk_cell BK866.out 2).trans rfl, (blk_cell BK866.out 3).trans rfl, (blk_cell BK866.out 4).trans rfl, (blk_cell BK841.out 0).trans rfl, (blk_cell BK841.out 1).trans rfl, (blk_cell BK841.out 2).trans rfl, (blk_cell BK841.out 3).trans rfl, (blk_cell BK841.out 4).trans rfl⟩ (fun hHeld => ?_)
      clear hK K
      refine norm_ (a' := ?_) ?_ ?_
      rotate_left
      ·show Act.put _ (some 44) _ = _
       simp only [Act.put, List.setIfInBounds_toArray, List.set_cons_zero, List.set_cons_succ, i64_w, i32_w]
       rfl
      refine pure_ (i := 4) (N := some 45) (v := ?_) (a' := ?_) #[true, true, true, true, true] rfl rfl (by kernel_rfl) (fun _ _ _ h => h) (Or.inl ⟨by rfl, ?_⟩) ?_ ?_
      rotate_left
      ·intro w'
       go_simp
       with_reducible rfl
      rotate_left
      ·simp only [Act.put, List.setIfInBounds_toArray, List.set_cons_zero, List.set_cons_succ, i64_w, i32_w]
       rfl
      refine done_ (by kernel_rfl) ?_
      try go_wp2
      go_ret
      exact ⟨by first | rfl | (simp [errW_none, errW_some] <;> rfl) | (simp [*, errW_none, errW_some] <;> rfl), by repeat (first | (with_reducible first | exact HB.out | apply below_alloc | apply pw_below_drewN | apply below_drew1 | refine below_set ?_ GE841.out | refine below_set ?_ GE858.out | refine below_set ?_ GE866.out | refine below_set ?_ GE875.out) | exact HB.out)⟩

end Go.Proofs.Ytkmnllcccgnliaa.G
