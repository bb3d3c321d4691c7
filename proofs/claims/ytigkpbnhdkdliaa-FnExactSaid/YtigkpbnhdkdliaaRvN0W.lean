/- The native functions, opened by one round each. Written by wip/rev/genw.py. -/
import Derived.Test.YtigkpbnhdkdliaaRvN0
import Derived.Test.YtigkpbnhdkdliaaRvM6
namespace Go.Proofs.Ytigkpbnhdkdliaa.R0
open Go.Rv
set_option linter.unusedVariables false
set_option maxRecDepth 100000
/-! impl_within -/
theorem impl_within.w {P : impl_within.N → Prop} {a0 : Int} {a1 : Int} {a2 : Int} (h : W (fun k m => (if (decide (a1 ≤ a0)) = true then some (decide (a0 ≤ a2)) else some false)) P) : W (fun k _ => impl_within.f k a0 a1 a2) P := W.congr h fun _ _ => rfl
/-! impl_ValidLimits -/
theorem impl_ValidLimits.w {P : impl_ValidLimits.N → Prop} {a0 : Int} {a1 : Int} (h : W (fun k m => (impl_within.f k a0 1 3).bind fun t1 => (if t1 = true then (impl_within.f k a1 1 6).bind fun t2 => some t2 else some false)) P) : W (fun k _ => impl_ValidLimits.f k a0 a1) P := W.congr h fun _ _ => rfl
/-! impl_Limits_isCourse -/
theorem impl_Limits_isCourse.w {P : impl_Limits_isCourse.N → Prop} {a0 : Int} {a1 : Int} {a2 : Int} {a3 : Int} {a4 : Int} (h : W (fun k m => (impl_within.f k a2 (-40) 40).bind fun t1 => (if t1 = true then (impl_within.f k a3 (-10) 10).bind fun t2 => (if t2 = true then (impl_within.f k a4 (wrap64 (0 - a0)) a0).bind fun t3 => some t3 else some false) else some false)) P) : W (fun k _ => impl_Limits_isCourse.f k a0 a1 a2 a3 a4) P := W.congr h fun _ _ => rfl
/-! impl_ValidCourse -/
theorem impl_ValidCourse.w {P : impl_ValidCourse.N → Prop} {a0 : Int} {a1 : Int} {a2 : Int} {a3 : Int} {a4 : Int} (h : W (fun k m => (impl_ValidLimits.f k a0 a1).bind fun t1 => (if t1 = true then (impl_Limits_isCourse.f k a0 a1 a2 a3 a4).bind fun t2 => some t2 else some false)) P) : W (fun k _ => impl_ValidCourse.f k a0 a1 a2 a3 a4) P := W.congr h fun _ _ => rfl
/-! impl_abs -/
theorem impl_abs.w {P : impl_abs.N → Prop} {a0 : Int} (h : W (fun k m => some (if a0 < (wrap64 (0 - a0)) then (wrap64 (0 - a0)) else a0)) P) : W (fun k _ => impl_abs.f k a0) P := W.congr h fun _ _ => rfl
/-! impl_Limits_next -/
theorem impl_Limits_next.w0 {P : impl_Limits_next.N → Prop} {x0 : Int} {x1 : Int} {x2 : Int} {x3 : Int} {x4 : Int} {x5 : Int} {x6 : Int} {x7 : Int} {x8 : Int} (h : W (fun k m => (impl_Limits_isCourse.f k x1 x2 (wrap64 (x3 + x4)) (wrap64 (x4 + x0)) x0).bind fun t3 => (if (!t3) = true then some (0, 0, 0, false) else some ((wrap64 (x3 + x4)), (wrap64 (x4 + x0)), x0, true))) P) : W (fun k m => (impl_Limits_next.cs k m) x0 x1 x2 x3 x4 x5 x6 x7 x8) P := W.step (fun _ _ => rfl) h
theorem impl_Limits_next.w {P : impl_Limits_next.N → Prop} {a0 : Int} {a1 : Int} {a2 : Int} {a3 : Int} {a4 : Int} {a5 : Int} (h : W (fun k m => (impl_within.f k a5 (wrap64 (0 - a0)) a0).bind fun t1 => (if (!t1) = true then some (0, 0, 0, false) else (impl_abs.f k (wrap64 (a5 - a4))).bind fun (t2 : Int) => (if (decide (a1 < t2)) = true then some (0, 0, 0, false) else (impl_Limits_next.cs k m) a5 a0 a1 a2 a3 a4 0 0 0))) P) : W (fun k _ => impl_Limits_next.f k a0 a1 a2 a3 a4 a5) P := W.diag h
/-! impl_Limits_turns -/
theorem impl_Limits_turns.w0 {P : impl_Limits_turns.N → Prop} {x0 : Int} {x1 : Int} {x2 : Int} {x3 : Int} {x4 : Int} {x5 : List Int} {x6 : Int} (h : W (fun k m => (if (decide (x6 ≤ x0)) = true then (impl_Limits_next.f k x0 x1 x2 x3 x4 x6).bind fun t1 => (if t1.2.2.2 = true then if x5.length + 1 < 1099511627776 then (impl_Limits_turns.cs k m) x0 x1 x2 x3 x4 (x5 ++ [x6]) (wrap64 (x6 + 1)) else none else (impl_Limits_turns.cs k m) x0 x1 x2 x3 x4 x5 (wrap64 (x6 + 1))) else some x5)) P) : W (fun k m => (impl_Limits_turns.cs k m) x0 x1 x2 x3 x4 x5 x6) P := W.step (fun _ _ => rfl) h
theorem impl_Limits_turns.w {P : impl_Limits_turns.N → Prop} {a0 : Int} {a1 : Int} {a2 : Int} {a3 : Int} {a4 : Int} (h : W (fun k m => (impl_Limits_turns.cs k m) a0 a1 a2 a3 a4 ([] : List Int) (wrap64 (0 - a0))) P) : W (fun k _ => impl_Limits_turns.f k a0 a1 a2 a3 a4) P := W.diag h
end Go.Proofs.Ytigkpbnhdkdliaa.R0
