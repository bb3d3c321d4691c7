/- Merging, and the axis of poses: what the program's and the reference's functions answer. -/
import Derived.Test.YtkmnllcccgnliaaXFnSplitAxW
namespace Go.Proofs.Ytkmnllcccgnliaa.R
open Go.Rv Go.Rv.Ax
set_option linter.unusedVariables false
set_option linter.unusedSimpArgs false
theorem merge_set {i : List Cu} {d c : Cu} : (i ++ [d]).set i.length (d.1 + c.1, d.2.1, d.2.2) = i ++ [(d.1 + c.1, d.2)] := by
  rw [List.set_append_right _ _ (Nat.le_refl _)]; simp
theorem pair_eq {c d : Cu} (h1 : d.2.1 = c.2.1) (h2 : d.2.2 = c.2.2) : d.2 = c.2 := by
  cases c; cases d; simp only at *; exact Prod.ext h1 h2
theorem implMerge_w (l : List Cu) (hl : l.length ≤ 1048576) (hn : ∀ c ∈ l, 0 ≤ c.1) (hs : sumR l ≤ 1048576) : W (fun k _ => impl_merged.f k l) (· = merge l) := by
  have key : ∀ (rest pre acc : List Cu), l = pre ++ rest → acc = pre.foldl mstep [] → acc.length ≤ pre.length → W (fun k m => (impl_merged.cs k m) acc l (l.length : Int) (pre.length : Int)) (· = merge l) := by
    intro rest
    induction rest with
    | nil =>
      intro pre acc e ha hc
      have e : l = pre := by simpa using e
      exact impl_merged.w0 (W.de (by rw [e]; omega) (W.ret (by rw [ha, e]; rfl)))
    | cons c rest ih =>
      intro pre acc e ha hc
      have hlen : l.length = pre.length + (rest.length + 1) := by rw [e]; simp
      have hx : rd (0, (0, 0)) l (pre.length : Int) = c := by rw [e]; exact rd_mid _ _ _
      have hpn : ∀ d ∈ pre, 0 ≤ d.1 := fun d hd => hn d (by rw [e]; simp [hd])
      have hc0 := hn c (by rw [e]; simp)
      have hrn := sumR_pos (l := rest) fun d hd => hn d (by rw [e]; simp [hd])
      have hfs := fold_spec pre [] (by simp) hpn
      rw [← ha] at hfs
      have hsum : sumR acc + c.1 ≤ 1048576 := by
        rw [hfs.2.2, sumR_nil]; rw [e, sumR_app, sumR_cons] at hs; omega
      have next := ih (pre ++ [c]) (mstep acc c) (by simp [e]) (by rw [List.foldl_append, ← ha]; rfl) (by have := mstep_length acc c; simp; omega)
      refine impl_merged.w0 (W.dt (by omega) (W.t (by omega) (W.t (by omega) ?_)))
      simp only [hx]
      rw [w64 (i := (pre.length : Int) + 1) (by omega) (by omega)]
      simp only [List.length_append, List.length_singleton, Int.natCast_add] at next
      rcases List.eq_nil_or_concat acc with h0 | ⟨i, d, h0⟩
      · rw [h0] at next ⊢
        rw [mstep_nil] at next
        exact W.de (by simp) (W.t (by simp) next)
      · rw [List.concat_eq_append] at h0
        rw [h0] at next ⊢ hc hsum hfs
        have hd0 := hfs.2.1 d (by simp)
        have hdm := sumR_mem hfs.2.1 (c := d) (by simp)
        have ew : wrap64 (((i ++ [d]).length : Int) - 1) = (i.length : Int) := by
          rw [w64 (by omega) (by omega)]; simp
        have hd : rd (0, (0, 0)) (i ++ [d]) (i.length : Int) = d := rd_mid _ _ _
        rw [ew, hd, w64 (i := d.1 + c.1) (by omega) (by omega), Int.toNat_natCast, merge_set]
        rw [mstep_snoc] at next
        have hil : (i ++ [d]).length = i.length + 1 := by simp
        refine W.dt (by omega) (W.t (by omega) (W.t (by omega) ?_))
        refine W.di (fun h1 => W.t (by omega) (W.t (by omega) ?_)) (fun h1 => ?_)
        · refine W.di (fun h2 => W.t (by omega) (W.t (by omega) (W.t (by omega) (W.t (by omega) ?_)))) (fun h2 => ?_)
          · rw [if_pos (pair_eq h1 h2)] at next; exact next
          · rw [if_neg fun h => h2 (congrArg Prod.snd h)] at next
            exact W.t (by omega) next
        · rw [if_neg fun h => h1 (congrArg Prod.fst h)] at next
          exact W.t (by omega) next
  exact impl_merged.w (key l [] [] rfl rfl (by simp))
/-! ### AxisOf -/
abbrev AxR := Int × Int × Int × Int × List Cu × Bool
def bad6 : AxR := (0, 0, 0, 0, [], false)
def ofV : List Po → AxR
  | [] => bad6
  | p :: l => if (1 ≤ l.length ∧ l.length ≤ 60) ∧ okP p = true ∧ (∀ q ∈ l, okP q = true) ∧ Ok p (merge (turns p l)) ∧ poses p (merge (turns p l)) = p :: l then (p.1, p.2.1, p.2.2.1, p.2.2.2, merge (turns p l), true) else bad6
theorem ofV_iff (p : Po) (l : List Po) : ((1 ≤ l.length ∧ l.length ≤ 60) ∧ okP p = true ∧ (∀ q ∈ l, okP q = true) ∧ Ok p (merge (turns p l)) ∧ poses p (merge (turns p l)) = p :: l) ↔ ((1 ≤ l.length ∧ l.length ≤ 60) ∧ okP p = true ∧ (∀ q ∈ l, okP q = true) ∧ Of p l) := by
  constructor
  · rintro ⟨h1, h2, h3, h4⟩; exact ⟨h1, h2, h3, (of_iff p l h1.2 h3).2 h4⟩
  · rintro ⟨h1, h2, h3, h4⟩; exact ⟨h1, h2, h3, (of_iff p l h1.2 h3).1 h4⟩
theorem ofV_no {p : Po} {l : List Po} (h : ¬((1 ≤ l.length ∧ l.length ≤ 60) ∧ okP p = true ∧ (∀ q ∈ l, okP q = true) ∧ Of p l)) : ofV (p :: l) = bad6 := by
  simp only [ofV]; rw [if_neg]; rw [ofV_iff]; exact h
theorem ofV_yes {p : Po} {l : List Po} (h : (1 ≤ l.length ∧ l.length ≤ 60) ∧ okP p = true ∧ (∀ q ∈ l, okP q = true) ∧ Of p l) : ofV (p :: l) = (p.1, p.2.1, p.2.2.1, p.2.2.2, merge (turns p l), true) := by
  simp only [ofV]; rw [if_pos]; rw [ofV_iff]; exact h
theorem stp_mid : ∀ (a z : List Po) (p u q : Po) (b : List Po), p :: a = z ++ [u] → (Stp p (a ++ q :: b) ↔ Stp p a ∧ Stp u (q :: b)) ∧ turns p (a ++ q :: b) = turns p a ++ turns u (q :: b)
  | [], z, p, u, q, b, e => by
    obtain ⟨rfl, rfl⟩ : z = [] ∧ p = u := by
      cases z with
      | nil => simpa using e
      | cons y z => simp at e
    exact ⟨by simp [Stp], by simp [turns]⟩
  | r :: a, z, p, u, q, b, e => by
    obtain ⟨z', rfl, e'⟩ : ∃ z', z = p :: z' ∧ r :: a = z' ++ [u] := by
      cases z with
      | nil => simp at e
      | cons y z => simp only [List.cons_append, List.cons.injEq] at e; exact ⟨z, by rw [e.1], e.2⟩
    obtain ⟨h1, h2⟩ := stp_mid a z' r u q b e'
    refine ⟨?_, ?_⟩
    · show (_ ∧ _ ∧ _ ∧ Stp r (a ++ q :: b)) ↔ (_ ∧ _ ∧ _ ∧ Stp r a) ∧ _
      rw [h1]; simp only [and_assoc]
    · show _ :: turns r (a ++ q :: b) = (_ :: turns r a) ++ _
      rw [h2]; rfl
theorem diff_eq {u q : Po} (hu : okP u = true) (hq : okP q = true) : wrap64 (q.2.2.1 - u.2.2.1) = q.2.2.1 - u.2.2.1 ∧ wrap64 (q.2.2.2 - u.2.2.2) = q.2.2.2 - u.2.2.2 := by
  rw [okP_iff] at hu hq
  exact ⟨w64 (by omega) (by omega), w64 (by omega) (by omega)⟩
theorem poseEq (a b : Po) : ((decide (a.1 = b.1) && (decide (a.2.1 = b.2.1) && (decide (a.2.2.1 = b.2.2.1) && (decide (a.2.2.2 = b.2.2.2) && true)))) = true) ↔ a = b := by
  obtain ⟨a1, a2, a3, a4⟩ := a
  obtain ⟨b1, b2, b3, b4⟩ := b
  simp only [Bool.and_true, Bool.and_eq_true, decide_eq_true_eq, Prod.mk.injEq]
/-! ### the program's -/
theorem equal_w (a b : List Po) (hl : a.length ≤ 1048576) : W (fun k _ => slices_Equal_Pose.f k a b) (· = decide (a = b)) := by
  refine slices_Equal_Pose.w (W.ndi (fun h => W.ret ?_) (fun h => ?_))
  · symm; rw [decide_eq_false_iff_not]; rintro rfl; exact h rfl
  have key : ∀ (r s pre pre' : List Po), a = pre ++ r → b = pre' ++ s → pre = pre' → W (fun k m => (slices_Equal_Pose.cs k m) a b (a.length : Int) (pre.length : Int)) (· = decide (a = b)) := by
    intro r
    induction r with
    | nil =>
      intro s pre pre' e e' ep
      refine slices_Equal_Pose.w0 (W.de (by rw [e]; simp) (W.ret ?_))
      symm; rw [decide_eq_true_eq, e, e', ep]
      have : s = [] := by rw [e, e', ep] at h; simp at h; exact List.length_eq_zero_iff.1 (by omega)
      rw [this]
    | cons x r ih =>
      intro s pre pre' e e' ep
      subst ep
      cases s with
      | nil => rw [e, e'] at h; simp at h; omega
      | cons y s =>
        have h1 : a.length = pre.length + (r.length + 1) := by rw [e]; simp
        have h2 : b.length = pre.length + (s.length + 1) := by rw [e']; simp
        have hx : rd (0, (0, (0, 0))) a (pre.length : Int) = x := by rw [e]; exact rd_mid _ _ _
        have hy : rd (0, (0, (0, 0))) b (pre.length : Int) = y := by rw [e']; exact rd_mid _ _ _
        refine slices_Equal_Pose.w0 (W.dt (by omega) (W.t (by omega) (W.t (by omega) (W.t (by omega) (W.t (by omega) ?_)))))
        rw [hx, hy]
        refine W.ni (fun hn => W.ret ?_) (fun hn => ?_)
        · symm; rw [decide_eq_false_iff_not]
          intro hab
          have : x = y := by rw [e, e'] at hab; have := List.append_cancel_left hab; exact (List.cons.inj this).1
          rw [(poseEq x y).2 this] at hn; cases hn
        · have hxy := (poseEq x y).1 hn
          have := ih s (pre ++ [x]) (pre ++ [x]) (by simp [e]) (by simp [e', hxy]) rfl
          rw [w64 (by omega) (by omega)]
          simpa using this
  exact key a b [] [] rfl rfl rfl
theorem badPose_w (l : List Po) (hl : l.length ≤ 1048576) : W (fun k _ => slices_ContainsFunc_Pose_AxisOf_1.f k l) (· = !l.all okP) := by
  have key : ∀ (rest pre : List Po), l = pre ++ rest → W (fun k m => (slices_IndexFunc_Pose_AxisOf_1.cs k m) l (l.length : Int) (pre.length : Int)) (fun r => decide (0 ≤ r) = !rest.all okP) := by
    intro rest
    induction rest with
    | nil =>
      intro pre e
      exact slices_IndexFunc_Pose_AxisOf_1.w0 (W.de (by rw [e]; simp) (W.ret (by simp)))
    | cons x rest ih =>
      intro pre e
      have hlen : l.length = pre.length + (rest.length + 1) := by rw [e]; simp
      have hx : rd (0, (0, (0, 0))) l (pre.length : Int) = x := by rw [e]; exact rd_mid _ _ _
      refine slices_IndexFunc_Pose_AxisOf_1.w0 (W.dt (by omega) (W.t (by omega) (W.t (by omega) ?_)))
      rw [hx]
      refine W.bindE (impl_AxisOf_1.w (W.bindE (validPose_w x) (W.ret rfl))) ?_
      refine W.ni (fun h => W.ret (by simp [h])) (fun h => ?_)
      have := ih (pre ++ [x]) (by simp [e])
      rw [w64 (by omega) (by omega)]
      simpa [h] using this
  refine slices_ContainsFunc_Pose_AxisOf_1.w (W.bind (slices_IndexFunc_Pose_AxisOf_1.w (key l [] rfl)) fun t ht => W.ret ht)
theorem implSteps_w (p : Po) (l : List Po) (h1 : 1 ≤ l.length ∧ l.length ≤ 60) (hp : okP p = true) (hq : ∀ q ∈ l, okP q = true) : ∀ (rest a z : List Po) (u : Po), l = a ++ rest → p :: a = z ++ [u] → okP u = true →
    W (fun k m => (impl_AxisOf.cs k m).2 (p :: l) 0 0 0 0 (turns p a) l (l.length : Int) (a.length : Int)) (· = ofV (p :: l)) := by
  intro rest
  induction rest with
  | nil =>
    intro a z u e ez hu
    have e : l = a := by simpa using e
    subst e
    have hx : rd (0, (0, (0, 0))) (p :: l) 0 = p := rfl
    have hone := turns_one l p
    have hlen := turns_length l p
    have hsum := sumR_one _ hone
    refine impl_AxisOf.w1 (W.de (by omega) (W.t (by omega) (W.t (by simp) ?_)))
    rw [hx]
    refine W.bindE (implMerge_w _ (by omega) (fun c hc => by rw [hone c hc]; omega) (by omega)) ?_
    refine W.bindE (implPoses_w p _) ?_
    by_cases ho : Ok p (merge (turns p l))
    · rw [posesV_ok ho]
      have hpl := ho.len
      refine W.ne rfl (W.bindE (equal_w _ _ (by rw [poses_length]; omega)) ?_)
      refine W.ni (fun h => W.ret ?_) (fun h => W.ret ?_)
      · simp only [ofV]; rw [if_neg]; · rfl
        rintro ⟨_, _, _, _, h5⟩; simp [h5] at h
      · simp only [ofV]; rw [if_pos]; exact ⟨h1, hp, hq, ho, of_decide_eq_true h⟩
    · rw [posesV_no ho]
      refine W.nt rfl (W.ret ?_)
      simp only [ofV]; rw [if_neg]; · rfl
      rintro ⟨_, _, _, h4, _⟩; exact ho h4
  | cons q rest ih =>
    intro a z u e ez hu
    have hlen : l.length = a.length + (rest.length + 1) := by rw [e]; simp
    have hzl : (p :: a).length = z.length + 1 := by rw [ez]; simp
    have hl : (p :: l).length = l.length + 1 := rfl
    have hx : rd (0, (0, (0, 0))) l (a.length : Int) = q := by rw [e]; exact rd_mid _ _ _
    have hy : rd (0, (0, (0, 0))) (p :: l) (a.length : Int) = u := by
      have : a.length = z.length := by simpa using hzl
      rw [e, ← List.cons_append, ez, List.append_assoc, this]; exact rd_mid z u _
    obtain ⟨n1, n2⟩ := stp_mid a z p u q [] ez
    have hqq := hq q (by rw [e]; simp)
    obtain ⟨d1, d2⟩ := diff_eq hu hqq
    refine impl_AxisOf.w1 (W.dt (by omega) (W.t (by omega) (W.t (by omega) (W.t (by omega) (W.t (by omega) (W.t (by omega) (W.t (by omega) (W.t (by rw [turns_length]; omega) ?_))))))))
    rw [hx, hy, d1, d2]
    have := ih (a ++ [q]) (p :: a) q (by simp [e]) (by simp) hqq
    rw [n2, show turns u [q] = [(1, q.2.2.1 - u.2.2.1, q.2.2.2 - u.2.2.2)] from rfl] at this
    rw [w64 (by omega) (by omega)]
    simpa using this
theorem implAxisOf_w (l : List Po) (hl : l.length ≤ 1048576) : W (fun k _ => impl_AxisOf.f k l) (· = ofV l) := by
  cases l with
  | nil => exact impl_AxisOf.w (W.dt (by simp) (W.ret rfl))
  | cons p l =>
    have hl1 : (p :: l).length = l.length + 1 := rfl
    have out : ¬(1 ≤ l.length ∧ l.length ≤ 60) → ofV (p :: l) = bad6 := fun h => ofV_no fun h' => h h'.1
    refine impl_AxisOf.w (W.di (fun h => W.ret (by rw [out (by omega)]; rfl)) (fun h => W.di (fun h' => W.ret (by rw [out (by omega)]; rfl)) (fun h' => ?_)))
    refine W.bindE (badPose_w _ hl) ?_
    refine W.ni (fun hb => W.ret ?_) (fun hb => ?_)
    · rw [ofV_no]; · rfl
      rintro ⟨_, h2, h3, _⟩
      have : (p :: l).all okP = true := List.all_eq_true.2 fun x hx => (List.mem_cons.1 hx).elim (fun e => e ▸ h2) (h3 x)
      rw [this] at hb; cases hb
    rw [List.all_eq_true] at hb
    refine impl_AxisOf.w0 (W.t (by omega) (W.t (by omega) ?_))
    exact implSteps_w p l (by omega) (hb p (by simp)) (fun q hq => hb q (by simp [hq])) l [] [] p rfl rfl (hb p (by simp))
theorem ofV_length (l : List Po) (hl : l.length ≤ 1048576) : (ofV l).2.2.2.2.1.length ≤ 1048576 := by
  cases l with
  | nil => exact Nat.zero_le _
  | cons p l =>
    simp only [ofV]
    split
    · have h1 := merge_length (turns p l)
      have h2 := turns_length l p
      simp only [List.length_cons] at hl
      exact Nat.le_trans h1 (by omega)
    · exact Nat.zero_le _
end Go.Proofs.Ytkmnllcccgnliaa.R
