/- The native functions, opened by one round each. Written by wip/rev/genw.py. -/
import Derived.Test.YtigkpbnhdkdliaaDoorXFnExactCourseTextF
import Derived.Test.YtigkpbnhdkdliaaDoorRvM4
namespace Go.Proofs.YtigkpbnhdkdliaaDoor.R
open Go.Rv
set_option linter.unusedVariables false
set_option maxRecDepth 100000
/-! laws_toCourse -/
theorem laws_toCourse.w {P : laws_toCourse.N → Prop} {a0 : Int} {a1 : Int} {a2 : Int} (h : W (fun k m => some (a0, a1, a2)) P) : W (fun k _ => laws_toCourse.f k a0 a1 a2) P := W.congr h fun _ _ => rfl
/-! spec_l00In -/
theorem spec_l00In.w {P : spec_l00In.N → Prop} {a0 : Int} {a1 : Int} {a2 : Int} (h : W (fun k m => (if (decide (a1 ≤ a0)) = true then some (decide (a0 ≤ a2)) else some false)) P) : W (fun k _ => spec_l00In.f k a0 a1 a2) P := W.congr h fun _ _ => rfl
/-! spec_l05Small -/
theorem spec_l05Small.w {P : spec_l05Small.N → Prop} {a0 : Int} {a1 : Int} {a2 : Int} (h : W (fun k m => (spec_l00In.f k a0 (-1000) 1000).bind fun t1 => (if t1 = true then (spec_l00In.f k a1 (-1000) 1000).bind fun t2 => (if t2 = true then (spec_l00In.f k a2 (-1000) 1000).bind fun t3 => some t3 else some false) else some false)) P) : W (fun k _ => spec_l05Small.f k a0 a1 a2) P := W.congr h fun _ _ => rfl
/-! spec_l01Dec -/
theorem spec_l01Dec.w0 {P : spec_l01Dec.N → Prop} {x0 : ByteArray} {x1 : Int} (h : W (fun k m => (if 10 = 0 then none else (if 10 = 0 then none else (spec_l01Dec.cs k m).2 x0 (wrap64 (x1.tdiv 10)) (sOf [(IntKind.u8.wrap ((wrap64 (48 - (x1.tmod 10)))))])))) P) : W (fun k m => (spec_l01Dec.cs k m).1 x0 x1) P := W.step (fun _ _ => rfl) h
theorem spec_l01Dec.w1 {P : spec_l01Dec.N → Prop} {x0 : ByteArray} {x1 : Int} {x2 : ByteArray} (h : W (fun k m => (if (decide (x1 < 0)) = true then (if 10 = 0 then none else if sFit (sOf [(IntKind.u8.wrap ((wrap64 (48 - (x1.tmod 10)))))]) x2 = true then (if 10 = 0 then none else (spec_l01Dec.cs k m).2 x0 (wrap64 (x1.tdiv 10)) (sCat (sOf [(IntKind.u8.wrap ((wrap64 (48 - (x1.tmod 10)))))]) x2)) else none) else if sFit x0 x2 = true then some (sCat x0 x2) else none)) P) : W (fun k m => (spec_l01Dec.cs k m).2 x0 x1 x2) P := W.step (fun _ _ => rfl) h
theorem spec_l01Dec.w {P : spec_l01Dec.N → Prop} {a0 : Int} (h : W (fun k m => (if (decide (a0 < 0)) = true then (spec_l01Dec.cs k m).1 (ByteArray.mk #[45]) a0 else (spec_l01Dec.cs k m).1 ByteArray.empty (wrap64 (0 - a0)))) P) : W (fun k _ => spec_l01Dec.f k a0) P := W.diag h
/-! spec_l05Text -/
theorem spec_l05Text.w {P : spec_l05Text.N → Prop} {a0 : Int} {a1 : Int} {a2 : Int} (h : W (fun k m => (spec_l01Dec.f k a0).bind fun t1 => if sFit t1 (ByteArray.mk #[47]) = true then (spec_l01Dec.f k a1).bind fun t2 => if sFit (sCat t1 (ByteArray.mk #[47])) t2 = true then if sFit (sCat (sCat t1 (ByteArray.mk #[47])) t2) (ByteArray.mk #[47]) = true then (spec_l01Dec.f k a2).bind fun t3 => if sFit (sCat (sCat (sCat t1 (ByteArray.mk #[47])) t2) (ByteArray.mk #[47])) t3 = true then some (sCat (sCat (sCat (sCat t1 (ByteArray.mk #[47])) t2) (ByteArray.mk #[47])) t3) else none else none else none else none) P) : W (fun k _ => spec_l05Text.f k a0 a1 a2) P := W.congr h fun _ _ => rfl
/-! spec_CourseText -/
theorem spec_CourseText.w {P : spec_CourseText.N → Prop} {a0 : Int} {a1 : Int} {a2 : Int} (h : W (fun k m => (spec_l05Small.f k a0 a1 a2).bind fun t1 => (if (!t1) = true then some ByteArray.empty else (spec_l05Text.f k a0 a1 a2).bind fun t2 => some t2)) P) : W (fun k _ => spec_CourseText.f k a0 a1 a2) P := W.congr h fun _ _ => rfl
/-! impl_within -/
theorem impl_within.w {P : impl_within.N → Prop} {a0 : Int} {a1 : Int} {a2 : Int} (h : W (fun k m => (if (decide (a1 ≤ a0)) = true then some (decide (a0 ≤ a2)) else some false)) P) : W (fun k _ => impl_within.f k a0 a1 a2) P := W.congr h fun _ _ => rfl
/-! impl_areWithin_1 -/
theorem impl_areWithin_1.w {P : impl_areWithin_1.N → Prop} {a0 : Int} {a1 : Int} {a2 : Int} (h : W (fun k m => (impl_within.f k a0 a1 a2).bind fun t1 => some (!t1)) P) : W (fun k _ => impl_areWithin_1.f k a0 a1 a2) P := W.congr h fun _ _ => rfl
/-! slices_IndexFunc_int64_areWithin_1 -/
theorem slices_IndexFunc_int64_areWithin_1.w0 {P : slices_IndexFunc_int64_areWithin_1.N → Prop} {x0 : List Int} {x1 : Int} {x2 : Int} {x3 : Int} {x4 : Int} (h : W (fun k m => (if (decide (x4 < x3)) = true then if 0 ≤ x4 then if x4 < (x0.length : Int) then (impl_areWithin_1.f k (rd 0 x0 x4) x1 x2).bind fun t1 => (if t1 = true then some x4 else (slices_IndexFunc_int64_areWithin_1.cs k m) x0 x1 x2 x3 (wrap64 (x4 + 1))) else none else none else some (-1))) P) : W (fun k m => (slices_IndexFunc_int64_areWithin_1.cs k m) x0 x1 x2 x3 x4) P := W.step (fun _ _ => rfl) h
theorem slices_IndexFunc_int64_areWithin_1.w {P : slices_IndexFunc_int64_areWithin_1.N → Prop} {a0 : List Int} {a1 : Int} {a2 : Int} (h : W (fun k m => (slices_IndexFunc_int64_areWithin_1.cs k m) a0 a1 a2 (a0.length : Int) 0) P) : W (fun k _ => slices_IndexFunc_int64_areWithin_1.f k a0 a1 a2) P := W.diag h
/-! slices_ContainsFunc_int64_areWithin_1 -/
theorem slices_ContainsFunc_int64_areWithin_1.w {P : slices_ContainsFunc_int64_areWithin_1.N → Prop} {a0 : List Int} {a1 : Int} {a2 : Int} (h : W (fun k m => (slices_IndexFunc_int64_areWithin_1.f k a0 a1 a2).bind fun (t1 : Int) => some (decide (0 ≤ t1))) P) : W (fun k _ => slices_ContainsFunc_int64_areWithin_1.f k a0 a1 a2) P := W.congr h fun _ _ => rfl
/-! impl_areWithin -/
theorem impl_areWithin.w {P : impl_areWithin.N → Prop} {a0 : List Int} {a1 : Int} {a2 : Int} (h : W (fun k m => (slices_ContainsFunc_int64_areWithin_1.f k a0 a1 a2).bind fun t1 => some (!t1)) P) : W (fun k _ => impl_areWithin.f k a0 a1 a2) P := W.congr h fun _ _ => rfl
/-! impl_Course_isTold -/
theorem impl_Course_isTold.w {P : impl_Course_isTold.N → Prop} {a0 : Int} {a1 : Int} {a2 : Int} (h : W (fun k m => (impl_areWithin.f k [a0, a1, a2] (-1000) 1000).bind fun t1 => some t1) P) : W (fun k _ => impl_Course_isTold.f k a0 a1 a2) P := W.congr h fun _ _ => rfl
/-! strconv_FormatInt -/
theorem strconv_FormatInt.w {P : strconv_FormatInt.N → Prop} {a0 : Int} {a1 : Int} (h : W (fun k m => T.fmtF a0 a1) P) : W (fun k _ => strconv_FormatInt.f k a0 a1) P := W.congr h fun _ _ => rfl
/-! impl_Decimal -/
theorem impl_Decimal.w {P : impl_Decimal.N → Prop} {a0 : Int} (h : W (fun k m => (strconv_FormatInt.f k a0 10).bind fun t1 => some t1) P) : W (fun k _ => impl_Decimal.f k a0) P := W.congr h fun _ _ => rfl
/-! strings_Join -/
theorem strings_Join.w {P : strings_Join.N → Prop} {a0 : List ByteArray} {a1 : ByteArray} (h : W (fun k m => T.joinF a0 a1) P) : W (fun k _ => strings_Join.f k a0 a1) P := W.congr h fun _ _ => rfl
/-! impl_decimals -/
theorem impl_decimals.w0 {P : impl_decimals.N → Prop} {x0 : ByteArray} {x1 : List ByteArray} {x2 : List Int} {x3 : Int} {x4 : Int} (h : W (fun k m => (if (decide (x4 < x3)) = true then if 0 ≤ x4 then if x4 < (x2.length : Int) then (impl_Decimal.f k (rd 0 x2 x4)).bind fun t1 => if x1.length + 1 < 1099511627776 then (impl_decimals.cs k m) x0 (x1 ++ [t1]) x2 x3 (wrap64 (x4 + 1)) else none else none else none else (strings_Join.f k x1 x0).bind fun t2 => some t2)) P) : W (fun k m => (impl_decimals.cs k m) x0 x1 x2 x3 x4) P := W.step (fun _ _ => rfl) h
theorem impl_decimals.w {P : impl_decimals.N → Prop} {a0 : List Int} {a1 : ByteArray} (h : W (fun k m => (impl_decimals.cs k m) a1 ([] : List ByteArray) a0 (a0.length : Int) 0) P) : W (fun k _ => impl_decimals.f k a0 a1) P := W.diag h
/-! impl_CourseText -/
theorem impl_CourseText.w {P : impl_CourseText.N → Prop} {a0 : Int} {a1 : Int} {a2 : Int} (h : W (fun k m => (impl_Course_isTold.f k a0 a1 a2).bind fun t1 => (if (!t1) = true then some ByteArray.empty else (impl_decimals.f k [a0, a1, a2] (ByteArray.mk #[47])).bind fun t2 => some t2)) P) : W (fun k _ => impl_CourseText.f k a0 a1 a2) P := W.congr h fun _ _ => rfl
/-! laws_FnExactCourseText -/
theorem laws_FnExactCourseText.w {P : laws_FnExactCourseText.N → Prop} {a0 : Int} {a1 : Int} {a2 : Int} (h : W (fun k m => (laws_toCourse.f k a0 a1 a2).bind fun t1 => (spec_CourseText.f k t1.1 t1.2.1 t1.2.2).bind fun t2 => (laws_toCourse.f k a0 a1 a2).bind fun t3 => (impl_CourseText.f k t3.1 t3.2.1 t3.2.2).bind fun t4 => (if (!sEq t4 t2) = true then some false else some true)) P) : W (fun k _ => laws_FnExactCourseText.f k a0 a1 a2) P := W.congr h fun _ _ => rfl
end Go.Proofs.YtigkpbnhdkdliaaDoor.R
