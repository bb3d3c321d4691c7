/- Offsets of a tube along an axis: the plain statement. -/
import Derived.Test.YtmgelocefebldaaXFnOffsetsB10
import Derived.Test.YtmgelocefebldaaXFnOffsetsOffs
import Derived.Test.YtmgelocefebldaaRvPuFnOffsets
namespace Go.Proofs.Ytmgelocefebldaa.Pure
open Go.Rv Go.Rv.Ax R
set_option linter.unusedVariables false
set_option linter.unusedSimpArgs false
theorem poseAtN_w {p : Po} {l : List Cu} (h : Ok p l) {i : Int} (hi : 0 ≤ i ∧ i ≤ ((tl l).length : Int)) : W (fun k _ => impl_PoseAt.f k p.1 p.2.1 p.2.2.1 p.2.2.2 l i) (· = ((rd (0, (0, (0, 0))) (poses p l) i).1, (rd (0, (0, (0, 0))) (poses p l) i).2.1, (rd (0, (0, (0, 0))) (poses p l) i).2.2.1, (rd (0, (0, (0, 0))) (poses p l) i).2.2.2, true)) := by
  have hpl := poses_length p l
  have hlen := h.len
  refine impl_PoseAt.w (W.bindE (implPoses_w p l) ?_)
  rw [posesV_ok h]
  refine W.ne rfl ?_
  dsimp only
  rw [w64 (i := ((poses p l).length : Int) - 1) (by omega) (by omega)]
  exact W.bindN (fun k => within_eq k _ _ _) (W.ne (inR_iff.2 (by omega)) (W.t (by omega) (W.t (by omega) (W.ret rfl))))
theorem straight : sqV (0, 0, 0, 0) [(2, (0, 0))] 0 (0, 0, 0, 0) [(0, 0), (0, 2)] = (0, true) := by decide +kernel
theorem FnOffsets : PureFnOffsets := by
  intro c0 c1 h0 h1
  refine W.yes (laws_FnOffsets.w ?_)
  refine W.bind (laws_b10Long.w (W.di (fun h => W.ret (P := fun _ => True) trivial) (fun h => W.ret trivial))) fun b _ => ?_
  refine W.bi (fun h => W.ret rfl) (fun h => ?_)
  refine W.bind (b10Axis_w fun b hb => wf_u8 (h0.2 b hb)) ?_
  rintro ⟨p1, p2, p3, p4, l, n, s1, s2, s3, s4⟩ ⟨hok, hn, hn2⟩
  refine W.bind (b10Tube_w fun b hb => wf_u8 (h1.2 b hb)) fun t ht => ?_
  dsimp only at hok hn hn2 ⊢
  have hlen := hok.len
  have last : ∀ x : Int, x = 0 → W (fun k m => (laws_FnOffsets.cs k m).2.2.1 x) (· = true) := fun x hx => by
    refine laws_FnOffsets.w2 (W.bindE (implSq_w (0, 0, 0, 0) [(2, (0, 0))] 0 (0, 0, 0, 0) [(0, 0), (0, 2)] (by simp)) ?_)
    rw [straight]
    exact W.dt hx (W.t rfl (W.ret rfl))
  have main : ∀ t : List Ri, t.length ≤ 2 → W (fun k m => (laws_FnOffsets.cs k m).1 p1 p2 p3 p4 l n s1 s2 s3 s4 t) (· = true) := by
    intro t ht2
    have hO := implOff_w (p1, p2, p3, p4) l n (s1, s2, s3, s4) t (by omega)
    have hQ := implSq_w (p1, p2, p3, p4) l n (s1, s2, s3, s4) t (by omega)
    have hT := implTubePosesV_w (s1, s2, s3, s4) t (by omega)
    refine laws_FnOffsets.w0 (W.bindE hO (W.bindE hQ (W.bindE hT ?_)))
    have hq2 : (sqV (p1, p2, p3, p4) l n (s1, s2, s3, s4) t).2 = (offV (p1, p2, p3, p4) l n (s1, s2, s3, s4) t).2 := by
      unfold sqV; split
      · rename_i h; rw [h]
      · rename_i h; simp at h; rw [h]
    have ho2 : (offV (p1, p2, p3, p4) l n (s1, s2, s3, s4) t).2 = (tubePV (s1, s2, s3, s4) t).2 := by
      have e : okOff (p1, p2, p3, p4) l n (s1, s2, s3, s4) t = (tubePV (s1, s2, s3, s4) t).2 := by
        unfold okOff
        have h2 : n + (t.length : Int) ≤ ((tl l).length : Int) := by omega
        simp [hok, hn, h2]
      unfold offV
      rw [e]
      cases (tubePV (s1, s2, s3, s4) t).2 <;> rfl
    refine W.e (by rw [hq2]; simp) (W.e (by rw [ho2]; simp) (laws_FnOffsets.w1 ?_))
    by_cases hb : (tubePV (s1, s2, s3, s4) t).2 = true
    case neg =>
      have hb : (tubePV (s1, s2, s3, s4) t).2 = false := by simpa using hb
      refine W.e (by rw [ho2, hb]; simp) (last _ ?_)
      unfold sqV
      rw [ho2, hb]; rfl
    refine W.t (by rw [ho2, hb]) ?_
    have hV := tubeV_ok hb
    have hvl := hV.len
    have hoo : okOff (p1, p2, p3, p4) l n (s1, s2, s3, s4) t = true := okOff_iff.2 ⟨hok, hb, hn, by omega⟩
    have hv : offV (p1, p2, p3, p4) l n (s1, s2, s3, s4) t = (offL (tubePV (s1, s2, s3, s4) t).1 (poses (p1, p2, p3, p4) l) n t.length, true) := by unfold offV; rw [if_pos hoo]
    have h2 := (offV_two (p := (p1, p2, p3, p4)) (l := l) (b := n) (s := (s1, s2, s3, s4)) (t := t)).2
    have hsq : (sqV (p1, p2, p3, p4) l n (s1, s2, s3, s4) t).1 = sqs (offL (tubePV (s1, s2, s3, s4) t).1 (poses (p1, p2, p3, p4) l) n t.length) := by unfold sqV; rw [hv]; rfl
    rw [hsq]
    rw [hv] at h2 ⊢
    dsimp only at h2 ⊢
    have hpl := poses_length (p1, p2, p3, p4) l
    have hx := hok.poses
    have hoks := hV.ok
    have hat : ∀ i : Nat, i < t.length → rd [] (offL (tubePV (s1, s2, s3, s4) t).1 (poses (p1, p2, p3, p4) l) n t.length) (i : Int) = off (tubePV (s1, s2, s3, s4) t).1 (poses (p1, p2, p3, p4) l) n i := fun i hi => by
      rw [rd_at (by rw [offL_length]; exact hi)]
      simp [offL]
    have hpa : ∀ i : Nat, i < t.length → W (fun k _ => impl_PoseAt.f k p1 p2 p3 p4 l (n + (i : Int) + 1)) (· = ((rd (0, (0, (0, 0))) (poses (p1, p2, p3, p4) l) (n + (i : Int) + 1)).1, (rd (0, (0, (0, 0))) (poses (p1, p2, p3, p4) l) (n + (i : Int) + 1)).2.1, (rd (0, (0, (0, 0))) (poses (p1, p2, p3, p4) l) (n + (i : Int) + 1)).2.2.1, (rd (0, (0, (0, 0))) (poses (p1, p2, p3, p4) l) (n + (i : Int) + 1)).2.2.2, true)) := fun i hi =>
      poseAtN_w (p := (p1, p2, p3, p4)) hok (i := n + (i : Int) + 1) (by omega)
    have hLl := offL_length (tubePV (s1, s2, s3, s4) t).1 (poses (p1, p2, p3, p4) l) n t.length
    generalize poses (p1, p2, p3, p4) l = ax at *
    generalize (tubePV (s1, s2, s3, s4) t).1 = own at *
    generalize offL own ax n t.length = L at *
    rw [w64 (i := (t.length : Int) + 1) (by omega) (by omega)]
    refine W.nde (by omega) (W.nde (by omega) (laws_FnOffsets.w3 ?_))
    have key : ∀ (rest pre : List (List Int)) (acc : Int), L = pre ++ rest → acc = sqs rest → W (fun k m => (laws_FnOffsets.cs k m).2.2.2.2.1 p1 p2 p3 p4 l n L acc own (pre.length : Int)) (· = true) := by
      intro rest
      induction rest with
      | nil =>
        intro pre acc e ha
        exact laws_FnOffsets.w4 (W.de (by rw [e]; simp) (last _ (by rw [ha]; rfl)))
      | cons x rest ih =>
        intro pre acc e ha
        have hlen' : L.length = pre.length + (rest.length + 1) := by rw [e]; simp
        have hi : pre.length < t.length := by omega
        have hx' : rd [] L (pre.length : Int) = x := by rw [e]; exact rd_mid _ _ _
        have hp : ((pre ++ [x]).length : Int) = (pre.length : Int) + 1 := by simp
        have htx := h2 x (by rw [e]; simp)
        have hxl := htx.1
        have hbd := sq1_bd htx
        have hxo := hat pre.length hi
        rw [hx'] at hxo
        have a1 := okP_iff.1 (rd_okP hoks (i := (pre.length : Int) + 1) (by omega) (by omega))
        have a2 := okP_iff.1 (rd_okP hx (i := n + (pre.length : Int) + 1) (by omega) (by omega))
        have e0 : rd 0 x 0 = (rd (0, (0, (0, 0))) own ((pre.length : Int) + 1)).1 - (rd (0, (0, (0, 0))) ax (n + (pre.length : Int) + 1)).1 := by rw [hxo]; rfl
        have e1 : rd 0 x 1 = (rd (0, (0, (0, 0))) own ((pre.length : Int) + 1)).2.1 - (rd (0, (0, (0, 0))) ax (n + (pre.length : Int) + 1)).2.1 := by rw [hxo]; rfl
        have hrs : ∀ L : List (List Int), (∀ y ∈ L, two y) → 0 ≤ sqs L ∧ sqs L ≤ 80000000000 * (L.length : Int) := by
          intro L
          induction L with
          | nil => intro _; simp [sqs]
          | cons y L ihL =>
            intro hy
            have := ihL fun z hz => hy z (List.mem_cons_of_mem _ hz)
            have := sq1_bd (hy y (by simp))
            simp only [sqs, List.length_cons]; omega
        have hr := hrs rest fun y hy => h2 y (by rw [e]; simp [hy])
        refine laws_FnOffsets.w4 (W.dt (by omega) ?_)
        rw [w64 (i := n + (pre.length : Int)) (by omega) (by omega), w64 (i := n + (pre.length : Int) + 1) (by omega) (by omega), w64 (i := (pre.length : Int) + 1) (by omega) (by omega), hx']
        refine W.bindE (hpa pre.length hi) (W.ne rfl ?_)
        dsimp only
        rw [w64 (i := (rd (0, (0, (0, 0))) own ((pre.length : Int) + 1)).1 - (rd (0, (0, (0, 0))) ax (n + (pre.length : Int) + 1)).1) (by omega) (by omega), w64 (i := (rd (0, (0, (0, 0))) own ((pre.length : Int) + 1)).2.1 - (rd (0, (0, (0, 0))) ax (n + (pre.length : Int) + 1)).2.1) (by omega) (by omega)]
        refine W.t (by omega) (W.t (by omega) (W.nde (by omega) (W.t (by omega) (W.t (by omega) (W.t (by omega) (W.t (by omega) (W.t (by omega) (W.t (by omega) (W.nde e0 ?_)))))))))
        refine W.t (by omega) (W.t (by omega) (W.t (by omega) (W.t (by omega) (W.t (by omega) (W.t (by omega) (W.nde e1 (laws_FnOffsets.w5 ?_)))))))
        rw [hx', sq1_eq htx, w64 (i := acc - sq1 x) (by rw [ha, sqs]; omega) (by rw [ha, sqs]; omega), w64 (i := (pre.length : Int) + 1) (by omega) (by omega)]
        refine W.t (by omega) (W.t (by omega) (W.t (by omega) (W.t (by omega) (W.t (by omega) (W.t (by omega) (W.t (by omega) (W.t (by omega) (W.t (by omega) (W.t (by omega) (W.t (by omega) (W.t (by omega) (W.t (by omega) (W.t (by omega) (W.t (by omega) (W.t (by omega) ?_)))))))))))))))
        have := ih (pre ++ [x]) (acc - sq1 x) (by simp [e]) (by rw [ha, sqs]; omega)
        rw [hp] at this
        exact this
    exact key L [] _ rfl rfl
  refine W.di (fun h2 => W.t (by omega) (W.t (by omega) (W.t (by omega) (main _ (by simp; omega))))) (fun h2 => main t (by omega))
end Go.Proofs.Ytmgelocefebldaa.Pure
