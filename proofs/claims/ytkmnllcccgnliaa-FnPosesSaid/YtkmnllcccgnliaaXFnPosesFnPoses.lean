/- The poses of an axis agree with its rings and with its normal axis: the plain statement. -/
import Derived.Test.YtkmnllcccgnliaaXFnPosesAxN
import Derived.Test.YtkmnllcccgnliaaXFnPosesAxM
import Derived.Test.YtkmnllcccgnliaaXFnPosesAxG
import Derived.Test.YtkmnllcccgnliaaXFnPosesDr2
import Derived.Test.YtkmnllcccgnliaaRvPuFnPoses
namespace Go.Proofs.Ytkmnllcccgnliaa.Pure
open Go.Rv Go.Rv.Ax R
open RowKit (wrap64)
set_option linter.unusedVariables false
set_option linter.unusedSimpArgs false
theorem normal_w {p : Po} {l : List Cu} (h : Ok p l) : W (fun k _ => impl_NormalAxis.f k p.1 p.2.1 p.2.2.1 p.2.2.2 l) (· = (p.1, p.2.1, p.2.2.1, p.2.2.2, merge l, true)) := by
  have h8 := h.2.1
  exact impl_NormalAxis.w (W.bindE (validAxis_w p l) (W.ne (by simp [h]) (W.bindE (implMerge_w l (by omega) h.nn (by have := h.2.2.2.1; omega)) (W.ret rfl))))
theorem turns_w {p : Po} {l : List Cu} (h : Ok p l) : W (fun k _ => impl_Axis_turns.f k p.1 p.2.1 p.2.2.1 p.2.2.2 l) (· = tl l) := by
  have h8 := h.2.1
  have key : ∀ (rest pre : List Cu), l = pre ++ rest → W (fun k m => (impl_Axis_turns.cs k m).1 (tl pre) l (l.length : Int) (pre.length : Int)) (· = tl l) := by
    intro rest
    induction rest with
    | nil => intro pre e; exact impl_Axis_turns.w0 (W.de (by rw [e]; simp) (W.ret (by rw [e]; simp)))
    | cons c rest ih =>
      intro pre e
      have hlen : l.length = pre.length + (rest.length + 1) := by rw [e]; simp
      have hx : rd (0, (0, 0)) l (pre.length : Int) = c := by rw [e]; exact rd_mid _ _ _
      have hc := (h.c (c := c) (by rw [e]; simp)).1
      have hs : sumR l ≤ 60 := h.2.2.2.1
      have hn1 : ∀ d ∈ pre, 0 ≤ d.1 := fun d hd => h.nn d (by rw [e]; simp [hd])
      have hr := sumR_pos (l := rest) fun d hd => h.nn d (by rw [e]; simp [hd])
      have htl := tl_length hn1
      rw [e, sumR_app, sumR_cons] at hs
      refine impl_Axis_turns.w0 (W.dt (by omega) (W.t (by omega) (W.t (by omega) ?_)))
      rw [hx]
      have ring : ∀ (n j : Nat), j + n = c.1.toNat → W (fun k m => (impl_Axis_turns.cs k m).2 (tl pre ++ List.replicate j (un c)) c.1 c.2.1 c.2.2 l (l.length : Int) (pre.length : Int) c.1 (j : Int)) (· = tl l) := by
        intro n
        induction n with
        | zero =>
          intro j hj
          refine impl_Axis_turns.w1 (W.de (by omega) ?_)
          have := ih (pre ++ [c]) (by simp [e])
          rw [w64 (by omega) (by omega)]
          rw [tl_full] at this
          have ej : j = c.1.toNat := by omega
          rw [ej]
          simpa using this
        | succ n ihn =>
          intro j hj
          refine impl_Axis_turns.w1 (W.dt (by omega) (W.t (by simp; omega) ?_))
          rw [w64 (i := (j : Int) + 1) (by omega) (by omega)]
          have := ihn (j + 1) (by omega)
          rw [List.replicate_succ', ← List.append_assoc] at this
          exact this
      have := ring c.1.toNat 0 (by omega)
      simpa using this
  exact impl_Axis_turns.w (key l [] rfl)
theorem curveAt_w {p : Po} {l : List Cu} (h : Ok p l) {a z : List Cu} {t : Cu} (e : tl l = a ++ t :: z) : W (fun k _ => impl_CurveAt.f k p.1 p.2.1 p.2.2.1 p.2.2.2 l (a.length : Int)) (· = (t.2.1, t.2.2, true)) := by
  have hlen := h.len
  have hl : (tl l).length = a.length + (z.length + 1) := by rw [e]; simp
  refine impl_CurveAt.w (W.bindE (ringsOf_w h) (W.ne rfl ?_))
  refine W.bindN (fun k => within_eq k _ _ _) (W.ne ?_ (W.bindE (turns_w h) (W.t (by omega) (W.t (by omega) (W.ret ?_)))))
  · rw [w64 (by simp only; omega) (by simp only; omega), inR_iff]; simp only; omega
  · rw [e, rd_mid]
theorem poseAt_w {p : Po} {l : List Cu} (h : Ok p l) {a z : List Po} {q : Po} (e : poses p l = a ++ q :: z) : W (fun k _ => impl_PoseAt.f k p.1 p.2.1 p.2.2.1 p.2.2.2 l (a.length : Int)) (· = (q.1, q.2.1, q.2.2.1, q.2.2.2, true)) := by
  have hlen := h.len
  have hpl := poses_length p l
  have hl : (poses p l).length = a.length + (z.length + 1) := by rw [e]; simp
  refine impl_PoseAt.w (W.bindE (implPoses_w p l) ?_)
  rw [posesV_ok h]
  refine W.ne rfl (W.bindN (fun k => within_eq k _ _ _) (W.ne ?_ (W.t (by omega) (W.t (by simp only; omega) (W.ret ?_)))))
  · rw [w64 (by simp only; omega) (by simp only; omega), inR_iff]; simp only; omega
  · rw [e, rd_mid]
theorem nextPose_w {p : Po} {c : Cu} (hp : okP p = true) (hc : okT c.2.1 c.2.2 = true) (hn : okP (nxt p c) = true) : W (fun k _ => impl_NextPose.f k p.1 p.2.1 p.2.2.1 p.2.2.2 c.2.1 c.2.2) (· = ((nxt p c).1, (nxt p c).2.1, (nxt p c).2.2.1, (nxt p c).2.2.2, true)) := by
  refine impl_NextPose.w (W.bindE (validPose_w p) (W.ne hp (W.bindE (isTurn_w _ _) (W.ne hc (W.bindN (fun k => implNext_eq k hp hc) (W.bindE (validPose_w _) (W.ne hn (W.bindN (fun k => implNext_eq k hp hc) (W.ret rfl)))))))))
theorem r8Axes_w (p : Po) (l : List Cu) (hl : l.length ≤ 1048576) : W (fun k _ => laws_r8Axes.f k p.1 p.2.1 p.2.2.1 p.2.2.2 l p.1 p.2.1 p.2.2.1 p.2.2.2 l) (· = true) := by
  refine laws_r8Axes.w (W.ne (by simp) (W.nde rfl (laws_r8Axes.w0 ?_)))
  have key : ∀ (rest pre : List Cu), l = pre ++ rest → W (fun k m => (laws_r8Axes.cs k m).2 p.1 p.2.1 p.2.2.1 p.2.2.2 l p.1 p.2.1 p.2.2.1 p.2.2.2 l (pre.length : Int)) (· = true) := by
    intro rest
    induction rest with
    | nil => intro pre e; exact laws_r8Axes.w1 (W.de (by rw [e]; simp) (W.ret rfl))
    | cons x rest ih =>
      intro pre e
      have hlen : l.length = pre.length + (rest.length + 1) := by rw [e]; simp
      refine laws_r8Axes.w1 (W.dt (by omega) (W.t (by omega) (W.t (by omega) (W.t (by omega) (W.t (by omega) (W.ne (by simp) ?_))))))
      have := ih (pre ++ [x]) (by simp [e])
      rw [w64 (by omega) (by omega)]
      simpa using this
  exact key l [] rfl
theorem r8Poses_w (l : List Po) (hl : l.length ≤ 1048576) : W (fun k _ => laws_r8Poses.f k l l) (· = true) := by
  refine laws_r8Poses.w (W.nde rfl ?_)
  have key : ∀ (rest pre : List Po), l = pre ++ rest → W (fun k m => (laws_r8Poses.cs k m) l l (pre.length : Int)) (· = true) := by
    intro rest
    induction rest with
    | nil => intro pre e; exact laws_r8Poses.w0 (W.de (by rw [e]; simp) (W.ret rfl))
    | cons x rest ih =>
      intro pre e
      have hlen : l.length = pre.length + (rest.length + 1) := by rw [e]; simp
      refine laws_r8Poses.w0 (W.dt (by omega) (W.t (by omega) (W.t (by omega) (W.t (by omega) (W.t (by omega) (W.ne (by simp) ?_))))))
      have := ih (pre ++ [x]) (by simp [e])
      rw [w64 (by omega) (by omega)]
      simpa using this
  exact key l [] rfl
theorem nbLoop_w (p : Po) (l : List Cu) (hl : l.length ≤ 1048576) (hn : nb l) (h1 : 1 ≤ l.length) : W (fun k m => (laws_FnPoses.cs k m).2.2 p.1 p.2.1 p.2.2.1 p.2.2.2 l 1) (· = true) := by
  have key : ∀ (rest pre : List Cu) (c : Cu), l = pre ++ c :: rest → W (fun k m => (laws_FnPoses.cs k m).2.2 p.1 p.2.1 p.2.2.1 p.2.2.2 l ((pre.length : Int) + 1)) (· = true) := by
    intro rest
    induction rest with
    | nil => intro pre c e; exact laws_FnPoses.w2 (W.de (by rw [e]; simp) (W.ret rfl))
    | cons d rest ih =>
      intro pre c e
      have hlen : l.length = pre.length + (rest.length + 1 + 1) := by rw [e]; simp
      have hx : rd (0, (0, 0)) l (pre.length : Int) = c := by rw [e]; exact rd_mid _ _ _
      have hy : rd (0, (0, 0)) l ((pre.length : Int) + 1) = d := by
        have := rd_mid (d := (0, (0, 0))) (pre ++ [c]) d rest
        rw [e]; simpa using this
      have hcd := nb_mid pre c d rest (e ▸ hn)
      have next := ih (pre ++ [c]) d (by simp [e])
      refine laws_FnPoses.w2 (W.dt (by omega) ?_)
      rw [w64 (i := (pre.length : Int) + 1 - 1) (by omega) (by omega), show (pre.length : Int) + 1 - 1 = pre.length by omega, w64 (i := (pre.length : Int) + 1 + 1) (by omega) (by omega), hx, hy]
      have next : W (fun k m => (laws_FnPoses.cs k m).2.2 p.1 p.2.1 p.2.2.1 p.2.2.2 l ((pre.length : Int) + 1 + 1)) (· = true) := by simpa using next
      refine W.t (by omega) (W.t (by omega) (W.t (by omega) (W.t (by omega) (W.di (fun h1 => W.t (by omega) (W.t (by omega) (W.t (by omega) (W.t (by omega) (W.de (fun h2 => hcd (Prod.ext h1 h2)) next))))) (fun _ => next)))))
  cases l with
  | nil => simp at h1
  | cons c l => exact key l [] c rfl
theorem FnPoses : PureFnPoses := by
  intro c0 c1 h0 h1
  refine W.yes (laws_FnPoses.w ?_)
  refine W.bind (laws_r8Long.w (W.di (fun h => W.ret (P := fun _ => True) trivial) (fun h => W.ret trivial))) fun b _ => ?_
  refine W.bi (fun h => W.ret rfl) (fun h => ?_)
  refine W.bind (r8Axis_w fun b hb => wf_u8 (h0.2 b hb)) ?_
  rintro ⟨a, b, c, d, l⟩ (h : Ok (a, b, c, d) l)
  have hlen := h.len
  have hpl := poses_length (a, b, c, d) l
  have hm := Ok_merge h
  have hok := h.poses
  have h8 := hm.2.1
  refine W.bindE (ringsOf_w h) (W.bindE (posesOf_w (a, b, c, d) l) (W.bindE (normal_w h) ?_))
  rw [posesV_ok h]
  refine W.bindE (implAxisOf_w (poses (a, b, c, d) l) (by omega)) ?_
  rw [ofV_poses h]
  refine W.bindE (posesOf_w (a, b, c, d) (merge l)) ?_
  rw [posesV_ok hm, merge_poses h]
  refine W.ne rfl (W.ne rfl (W.ne rfl (W.ne rfl (W.ne rfl (W.de (by simp only; omega) (W.de (by simp only; omega) (W.nde ?_ ?_)))))))
  · rw [w64 (by simp only; omega) (by simp only; omega)]; simp only; omega
  refine W.bindE (r8Axes_w (a, b, c, d) (merge l) (by omega)) (W.ne rfl (W.bindE (r8Poses_w _ (by simp only; omega)) (W.ne rfl (W.t (by omega) (W.t (by simp only; omega) (W.ne (by simp [poses, rd]) (laws_FnPoses.w0 ?_)))))))
  have key : ∀ (rest pre : List Cu), tl l = pre ++ rest → W (fun k m => (laws_FnPoses.cs k m).2.1 a b c d l ((tl l).length : Int) (poses (a, b, c, d) l) a b c d (merge l) (pre.length : Int)) (· = true) := by
    intro rest
    induction rest with
    | nil => intro pre e; exact laws_FnPoses.w1 (W.de (by rw [e]; simp) (nbLoop_w (a, b, c, d) (merge l) (by omega) (nb_merge l) h8.1))
    | cons t rest ih =>
      intro pre e
      have hlen' : (tl l).length = pre.length + (rest.length + 1) := by rw [e]; simp
      obtain ⟨z, hz, hzl⟩ := last_scan (a, b, c, d) pre
      have hp : poses (a, b, c, d) l = z ++ endP (a, b, c, d) pre :: nxt (endP (a, b, c, d) pre) t :: scan (nxt (endP (a, b, c, d) pre) t) rest := by
        rw [poses, e, scan_app, ← List.cons_append, hz]; simp [scan]
      have hx : rd (0, (0, (0, 0))) (poses (a, b, c, d) l) (pre.length : Int) = endP (a, b, c, d) pre := by rw [hp, ← hzl]; exact rd_mid _ _ _
      have hy : rd (0, (0, (0, 0))) (poses (a, b, c, d) l) ((pre.length : Int) + 1) = nxt (endP (a, b, c, d) pre) t := by
        have := rd_mid (d := (0, (0, (0, 0)))) (z ++ [endP (a, b, c, d) pre]) (nxt (endP (a, b, c, d) pre) t) (scan (nxt (endP (a, b, c, d) pre) t) rest)
        rw [hp, ← hzl]; simpa using this
      have ho1 := hok (endP (a, b, c, d) pre) (by rw [hp]; simp)
      have ho2 := hok (nxt (endP (a, b, c, d) pre) t) (by rw [hp]; simp)
      have hot := okT_tl h t (by rw [e]; simp)
      have hat := poseAt_w h hp
      rw [hzl] at hat
      have next := ih (pre ++ [t]) (by simp [e])
      refine laws_FnPoses.w1 (W.dt (by omega) (W.bindE (curveAt_w h e) (W.t (by omega) (W.t (by omega) ?_))))
      rw [w64 (by omega) (by omega), hx, hy]
      refine W.bindE (nextPose_w ho1 hot ho2) (W.bindE hat (W.ne rfl (W.ne rfl (W.ne rfl (W.t (by omega) (W.t (by omega) (W.ne (by simp) (W.t (by omega) (W.t (by omega) (W.ne (by simp) ?_))))))))))
      simpa using next
  exact key (tl l) [] rfl
end Go.Proofs.Ytkmnllcccgnliaa.Pure
