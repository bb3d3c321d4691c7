/- Both parts of an axis that is split: the plain statement. -/
import Derived.Test.YtkmnllcccgnliaaXFnSplitDr2
import Derived.Test.YtkmnllcccgnliaaXFnSplitAxG
import Derived.Test.YtkmnllcccgnliaaXFnSplitR8
import Derived.Test.YtkmnllcccgnliaaXFnSplitSpl
import Derived.Test.YtkmnllcccgnliaaXFnSplitJoin
import Derived.Test.YtkmnllcccgnliaaXFnSplitR8At
import Derived.Test.YtkmnllcccgnliaaRvPuFnSplit
namespace Go.Proofs.Ytkmnllcccgnliaa.Pure
open Go.Rv Go.Rv.Ax R
set_option linter.unusedVariables false
set_option linter.unusedSimpArgs false
theorem FnSplit : PureFnSplit := by
  intro c0 c1 h0 h1
  refine W.yes (laws_FnSplit.w ?_)
  refine W.bind (laws_r8Long.w (W.di (fun h => W.ret (P := fun _ => True) trivial) (fun h => W.ret trivial))) fun b _ => ?_
  refine W.bi (fun h => W.ret rfl) (fun h => ?_)
  have hc1 : ∀ b ∈ c1, 0 ≤ b ∧ b ≤ 255 := fun b hb => wf_u8 (h1.2 b hb)
  refine W.bind (r8Axis_w fun b hb => wf_u8 (h0.2 b hb)) ?_
  rintro ⟨p1, p2, p3, p4, l⟩ hok
  dsimp only at hok ⊢
  have hlen := hok.len
  have hpl := poses_length (p1, p2, p3, p4) l
  refine W.bindE (ringsOf_w (p := (p1, p2, p3, p4)) hok) (W.bindE (posesOf_w (p1, p2, p3, p4) l) ?_)
  rw [posesV_ok hok]
  dsimp only
  rw [w64 (i := ((tl l).length : Int) + 1) (by omega) (by omega)]
  refine W.ne rfl (W.ne rfl (W.de (by omega) (W.nde (by omega) (laws_FnSplit.w0 ?_))))
  refine W.bindE (implSplit_w (p1, p2, p3, p4) l ((tl l).length : Int) (by omega)) ?_
  have hno : splitV (p1, p2, p3, p4) l ((tl l).length : Int) = bad11 := by rw [splitV, if_neg]; omega
  rw [hno]
  refine W.e (by simp [bad11]) (W.di (fun _ => W.ret rfl) (fun hn1 => ?_))
  rw [w64 (i := ((tl l).length : Int) - 1) (by omega) (by omega)]
  refine W.bind (r8At_w hc1 0 (((tl l).length : Int) - 1) (by omega) (by omega)) fun (t : Int) ht => ?_
  rw [w64 (i := 1 + t) (by omega) (by omega), w64 (i := 1 + t + 1) (by omega) (by omega)]
  refine W.bindE (implSplit_w (p1, p2, p3, p4) l (1 + t) (by omega)) ?_
  have hP := parts_ok hok (n := 1 + t) (by omega) (by omega)
  rw [splitV, if_pos ⟨hok, by omega, by omega⟩]
  have hsl := splitL_length l (1 + t)
  generalize rd (0, (0, (0, 0))) (poses (p1, p2, p3, p4) l) (1 + t) = q at *
  generalize (splitL (1 + t) l).1 = X at *
  generalize (splitL (1 + t) l).2 = Y at *
  obtain ⟨okX, okY, tX, tY, hq, pX, pY⟩ := hP
  obtain ⟨q1, q2, q3, q4⟩ := q
  unfold sp11
  dsimp only
  have hl8 := hok.2.1
  refine W.bindE (posesOf_w (p1, p2, p3, p4) X) (W.bindE (posesOf_w (q1, q2, q3, q4) Y) ?_)
  rw [posesV_ok okX, posesV_ok okY, pX, pY]
  refine W.ne rfl (W.ne rfl (W.ne rfl (W.t (by omega) (W.t (by omega) (W.t (by omega) ?_)))))
  rw [show (1 + t + 1).toNat = (1 + t).toNat + 1 by omega, List.drop_zero]
  refine W.bindE (r8Poses_w _ (by rw [List.length_take]; omega)) (W.ne rfl (W.t (by omega) (W.t (by omega) (W.bindE (r8Poses_w _ (by rw [List.length_drop]; omega)) (W.ne rfl (laws_FnSplit.w1 ?_))))))
  refine W.bindE (implJoin_w (p1, p2, p3, p4) X (q1, q2, q3, q4) Y (by omega) (by omega)) ?_
  have htl : tl (X ++ Y) = tl l := by rw [tl_app, tX, tY, List.take_append_drop]
  have hall : ∀ c ∈ X ++ Y, okC c = true := fun c hc => by
    rcases List.mem_append.1 hc with hc | hc
    · exact okX.2.2.1 c hc
    · exact okY.2.2.1 c hc
  have hx1 := okX.2.1
  have hsum : sumR (X ++ Y) = ((tl (X ++ Y)).length : Int) := (tl_length fun d hd => by have := (okC_iff.1 (hall d hd)).1; omega).symm
  by_cases h8 : X.length + Y.length ≤ 8
  · have hj : Ok (p1, p2, p3, p4) (X ++ Y) := ⟨hok.1, by rw [List.length_append]; omega, hall, by rw [hsum, htl]; omega, by rw [htl]; exact hok.2.2.2.2⟩
    have hm : merge (X ++ Y) = merge l := by
      rw [← merge_tl (X ++ Y) fun c hc => (okC_iff.1 (hall c hc)).1, htl, merge_tl l fun c hc => (hok.c hc).1]
    rw [joinV, if_pos ⟨okX, okY, hq, hj⟩]
    refine W.ne rfl (W.bindE (normal_w (p := (p1, p2, p3, p4)) hj) (W.bindE (normal_w (p := (p1, p2, p3, p4)) hok) ?_))
    rw [hm]
    exact W.t rfl (W.t rfl (W.bindE (r8Axes_w (p1, p2, p3, p4) (merge l) (by have := merge_length l; omega)) (W.ret rfl)))
  · rw [joinV, if_neg]
    · refine W.nt rfl (W.ret ?_)
      rw [w64 (i := (X.length : Int) + (Y.length : Int)) (by omega) (by omega)]
      exact decide_eq_true (by omega)
    · rintro ⟨_, _, _, hj⟩
      have := hj.2.1.2
      rw [List.length_append] at this
      omega
end Go.Proofs.Ytkmnllcccgnliaa.Pure
