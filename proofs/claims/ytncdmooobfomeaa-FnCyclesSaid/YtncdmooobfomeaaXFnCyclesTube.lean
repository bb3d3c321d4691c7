/- The tube of cycles: what the program's and the reference's functions answer. -/
import Derived.Test.YtncdmooobfomeaaXFnCyclesMac
namespace Go.Proofs.Ytncdmooobfomeaa.R
open Go.Rv Go.Rv.Ax
open RowKit (wrap64)
set_option linter.unusedVariables false
set_option linter.unusedSimpArgs false
def cyc (m : Mac) (c : Po) : Mac × Bool := if (pushV m c.1 c.2.1).2 then buildV (pushV m c.1 c.2.1).1 c.2.2.1 c.2.2.2 else z9
theorem cyc_ok {m : Mac} {c : Po} (h : (cyc m c).2 = true) : okM (cyc m c).1 = true := by
  unfold cyc at *
  split at h
  · rename_i hp; rw [if_pos hp]; exact buildV_ok h
  · cases h
theorem specCycle_w (m : Mac) (c : Po) : W (fun k _ => spec_l04Cycle.f k m.s.1 m.s.2.1 m.s.2.2.1 m.s.2.2.2 m.t.1 m.t.2.1 m.t.2.2.1 m.t.2.2.2 m.i c.1 c.2.1 c.2.2.1 c.2.2.2) (· = T10 (cyc m c)) := by
  refine spec_l04Cycle.w (W.bindE (specPush_w m c.1 c.2.1) (W.ni (fun h => W.ret ?_) (fun h => W.bindE (specBuild_w (pushV m c.1 c.2.1).1 c.2.2.1 c.2.2.2) (W.ret ?_))))
  · have h : (pushV m c.1 c.2.1).2 = false := h
    rw [cyc, if_neg (by simp [h])]; rfl
  · have h : (pushV m c.1 c.2.1).2 = true := h
    rw [cyc, if_pos h]
theorem implCycle_w (m : Mac) (c : Po) (hm : okM m = true) : W (fun k _ => impl_Machine_cycle.f k m.s.1 m.s.2.1 m.s.2.2.1 m.s.2.2.2 m.t.1 m.t.2.1 m.t.2.2.1 m.t.2.2.2 m.i c.1 c.2.1 c.2.2.1 c.2.2.2) (· = T10 (cyc m c)) := by
  have hp := implPush_w m c.1 c.2.1
  rw [if_pos hm] at hp
  refine impl_Machine_cycle.w (W.bindE hp (W.ni (fun h => W.ret ?_) (fun h => ?_)))
  · have h : (pushV m c.1 c.2.1).2 = false := h
    rw [cyc, if_neg (by simp [h])]; rfl
  · have h : (pushV m c.1 c.2.1).2 = true := h
    have hb := implBuild_w (pushV m c.1 c.2.1).1 c.2.2.1 c.2.2.2
    rw [if_pos (pushV_ok h)] at hb
    refine W.bindE hb (W.ret ?_)
    rw [cyc, if_pos h]
def tubeR : Mac → List Po → Option (List Po)
  | _, [] => some []
  | m, c :: l => if (cyc m c).2 then (tubeR (cyc m c).1 l).map ((cyc m c).1.t :: ·) else none
def out (a : List Po) : Option (List Po) → List Po × Bool
  | some r => (a ++ r, true)
  | none => ([], false)
theorem out_map (a : List Po) (q : Po) : ∀ o : Option (List Po), out a (o.map (q :: ·)) = out (a ++ [q]) o
  | none => rfl
  | some r => by simp [out]
def tubeV (m : Mac) (l : List Po) : List Po × Bool := if okM m = true ∧ l.length ≤ 20 then out [m.t] (tubeR m l) else ([], false)
theorem tubeR_length : ∀ (l : List Po) (m : Mac) (r : List Po), tubeR m l = some r → r.length = l.length
  | [], m, r, h => by cases h; rfl
  | c :: l, m, r, h => by
    rw [tubeR] at h
    split at h
    · cases he : tubeR (cyc m c).1 l with
      | none => rw [he] at h; cases h
      | some s => rw [he] at h; cases h; simp [tubeR_length l _ s he]
    · cases h
theorem tubeV_length (m : Mac) (l : List Po) : (tubeV m l).1.length ≤ 1000 := by
  unfold tubeV
  split
  · rename_i h
    cases he : tubeR m l with
    | none => exact Nat.zero_le _
    | some r =>
      have := tubeR_length l m r he
      simp only [out, List.length_append, List.length_singleton]; omega
  · exact Nat.zero_le _
theorem specTube_w (m : Mac) (l : List Po) : W (fun k _ => spec_TubeOf.f k m.s.1 m.s.2.1 m.s.2.2.1 m.s.2.2.2 m.t.1 m.t.2.1 m.t.2.2.1 m.t.2.2.2 m.i l) (· = tubeV m l) := by
  refine spec_TubeOf.w (W.bindE (macIs_w m) (W.ni (fun h => W.ret (by rw [tubeV, if_neg (by simp [h])])) (fun h => W.di (fun hl => W.ret (by rw [tubeV, if_neg (by omega)])) (fun hl => spec_TubeOf.w0 ?_))))
  rw [tubeV, if_pos ⟨h, by omega⟩]
  have key : ∀ (rest pre : List Po) (n : Mac) (a : List Po), l = pre ++ rest → a.length = pre.length + 1 →
      W (fun k j => (spec_TubeOf.cs k j).2 l n.s.1 n.s.2.1 n.s.2.2.1 n.s.2.2.2 n.t.1 n.t.2.1 n.t.2.2.1 n.t.2.2.2 n.i a (pre.length : Int)) (· = out a (tubeR n rest)) := by
    intro rest
    induction rest with
    | nil => intro pre n a e ha; exact spec_TubeOf.w1 (W.de (by rw [e]; simp) (W.ret (by simp [tubeR, out])))
    | cons c rest ih =>
      intro pre n a e ha
      have hlen : l.length = pre.length + (rest.length + 1) := by rw [e]; simp
      have hx : rd (0, (0, (0, 0))) l (pre.length : Int) = c := by rw [e]; exact rd_mid _ _ _
      refine spec_TubeOf.w1 (W.dt (by omega) (W.t (by omega) (W.t (by omega) ?_)))
      rw [hx]
      refine W.bindE (specCycle_w n c) (W.ni (fun hc => W.ret ?_) (fun hc => W.t (by omega) ?_))
      · have hc : (cyc n c).2 = false := hc
        rw [tubeR, if_neg (by simp [hc])]; rfl
      · have hc : (cyc n c).2 = true := hc
        have := ih (pre ++ [c]) (cyc n c).1 (a ++ [(cyc n c).1.t]) (by simp [e]) (by simp [ha])
        rw [tubeR, if_pos hc, out_map, w64 (by omega) (by omega)]
        rw [show ((pre ++ [c]).length : Int) = (pre.length : Int) + 1 by simp] at this
        exact this
  exact key l [] m [m.t] rfl rfl
theorem implTube_w (m : Mac) (l : List Po) : W (fun k _ => impl_TubeOf.f k m.s.1 m.s.2.1 m.s.2.2.1 m.s.2.2.2 m.t.1 m.t.2.1 m.t.2.2.1 m.t.2.2.2 m.i l) (· = tubeV m l) := by
  refine impl_TubeOf.w (W.bindE (implValid_w m) (W.ni (fun h => W.ret (by rw [tubeV, if_neg (by simp [h])])) (fun h => W.di (fun hl => W.ret (by rw [tubeV, if_neg (by omega)])) (fun hl => impl_TubeOf.w0 ?_))))
  rw [tubeV, if_pos ⟨h, by omega⟩]
  have key : ∀ (rest pre : List Po) (n : Mac) (a : List Po), l = pre ++ rest → a.length = pre.length + 1 → okM n = true →
      W (fun k j => (impl_TubeOf.cs k j).2 n.s.1 n.s.2.1 n.s.2.2.1 n.s.2.2.2 n.t.1 n.t.2.1 n.t.2.2.1 n.t.2.2.2 n.i a l (l.length : Int) (pre.length : Int)) (· = out a (tubeR n rest)) := by
    intro rest
    induction rest with
    | nil => intro pre n a e ha hn; exact impl_TubeOf.w1 (W.de (by rw [e]; simp) (W.ret (by simp [tubeR, out])))
    | cons c rest ih =>
      intro pre n a e ha hn
      have hlen : l.length = pre.length + (rest.length + 1) := by rw [e]; simp
      have hx : rd (0, (0, (0, 0))) l (pre.length : Int) = c := by rw [e]; exact rd_mid _ _ _
      refine impl_TubeOf.w1 (W.dt (by omega) (W.t (by omega) (W.t (by omega) ?_)))
      rw [hx]
      refine W.bindE (implCycle_w n c hn) (W.ni (fun hc => W.ret ?_) (fun hc => W.t (by omega) ?_))
      · have hc : (cyc n c).2 = false := hc
        rw [tubeR, if_neg (by simp [hc])]; rfl
      · have hc : (cyc n c).2 = true := hc
        have := ih (pre ++ [c]) (cyc n c).1 (a ++ [(cyc n c).1.t]) (by simp [e]) (by simp [ha]) (cyc_ok hc)
        rw [tubeR, if_pos hc, out_map, w64 (by omega) (by omega)]
        rw [show ((pre ++ [c]).length : Int) = (pre.length : Int) + 1 by simp] at this
        exact this
  exact key l [] m [m.t] rfl rfl h
end Go.Proofs.Ytncdmooobfomeaa.R
