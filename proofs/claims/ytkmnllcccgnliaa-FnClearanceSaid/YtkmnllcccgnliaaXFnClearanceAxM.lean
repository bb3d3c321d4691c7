/- What the program's small functions on axes answer for a valid axis. -/
import Derived.Test.YtkmnllcccgnliaaXFnClearanceAxR1
namespace Go.Proofs.Ytkmnllcccgnliaa.R
open Go.Rv Go.Rv.Ax
open RowKit (wrap64)
set_option linter.unusedVariables false
set_option linter.unusedSimpArgs false
theorem posesOf_w (p : Po) (l : List Cu) : W (fun k _ => impl_PosesOf.f k p.1 p.2.1 p.2.2.1 p.2.2.2 l) (· = posesV p l) := impl_PosesOf.w (W.bindE (implPoses_w p l) (W.ret rfl))
theorem validAxis_w (p : Po) (l : List Cu) : W (fun k _ => impl_ValidAxis.f k p.1 p.2.1 p.2.2.1 p.2.2.2 l) (· = decide (Ok p l)) := by
  refine impl_ValidAxis.w (W.bindE (implPoses_w p l) (W.ret ?_))
  unfold posesV; split <;> simp [*]
/-! ### the mirrored axis -/
def mirP (p : Po) : Po := (-p.1, p.2.1, -p.2.2.1, p.2.2.2)
def mirC (c : Cu) : Cu := (c.1, -c.2.1, c.2.2)
theorem mir_nxt (p : Po) (c : Cu) : nxt (mirP p) (mirC c) = mirP (nxt p c) := by
  simp [nxt, mirP, mirC, Prod.mk.injEq]; omega
theorem mir_scan : ∀ (l : List Cu) (p : Po), scan (mirP p) (l.map mirC) = (scan p l).map mirP
  | [], _ => rfl
  | c :: l, p => by simp only [List.map_cons, scan, mir_nxt, mir_scan l]
theorem mir_tl (l : List Cu) : tl (l.map mirC) = (tl l).map mirC := by
  induction l with
  | nil => rfl
  | cons c l ih => rw [List.map_cons, tl_cons, tl_cons, List.map_append, ih, List.map_replicate]; rfl
theorem mir_okP {p : Po} (h : okP p = true) : okP (mirP p) = true := by
  rw [okP_iff] at h ⊢; simp only [mirP]; omega
theorem mir_ok {p : Po} {l : List Cu} (h : Ok p l) : Ok (mirP p) (l.map mirC) := by
  refine ⟨mir_okP h.1, by simpa using h.2.1, fun c hc => ?_, ?_, fun q hq => ?_⟩
  · obtain ⟨d, hd, rfl⟩ := List.mem_map.1 hc
    have := h.c hd
    rw [okT_iff] at this
    rw [okC_iff, okT_iff]; simp only [mirC]; omega
  · have : sumR (l.map mirC) = sumR l := by simp [sumR, mirC, Function.comp_def]
    rw [this]; exact h.2.2.2.1
  · rw [mir_tl, mir_scan] at hq
    obtain ⟨q', hq', rfl⟩ := List.mem_map.1 hq
    exact mir_okP (h.2.2.2.2 q' hq')
theorem mir_poses (p : Po) (l : List Cu) : poses (mirP p) (l.map mirC) = (poses p l).map mirP := by
  rw [poses, mir_tl, mir_scan]; rfl
theorem mirror_w {p : Po} {l : List Cu} (h : Ok p l) : W (fun k _ => impl_MirrorAxis.f k p.1 p.2.1 p.2.2.1 p.2.2.2 l) (· = ((mirP p).1, (mirP p).2.1, (mirP p).2.2.1, (mirP p).2.2.2, l.map mirC, true)) := by
  have hp := h.1
  rw [okP_iff] at hp
  refine impl_MirrorAxis.w (W.bindE (validAxis_w p l) (W.ne (by simp [h]) ?_))
  rw [w64 (i := 0 - p.1) (by omega) (by omega), w64 (i := 0 - p.2.2.1) (by omega) (by omega)]
  have h8 := h.2.1
  have key : ∀ (rest pre : List Cu), l = pre ++ rest → W (fun k m => (impl_MirrorAxis.cs k m) 0 0 0 0 (0 - p.1) p.2.1 (0 - p.2.2.1) p.2.2.2 (pre.map mirC) l (l.length : Int) (pre.length : Int)) (· = ((mirP p).1, (mirP p).2.1, (mirP p).2.2.1, (mirP p).2.2.2, l.map mirC, true)) := by
    intro rest
    induction rest with
    | nil =>
      intro pre e
      refine impl_MirrorAxis.w0 (W.de (by rw [e]; simp) (W.ret ?_))
      rw [e]; simp [mirP]
    | cons c rest ih =>
      intro pre e
      have hlen : l.length = pre.length + (rest.length + 1) := by rw [e]; simp
      have hx : rd (0, (0, 0)) l (pre.length : Int) = c := by rw [e]; exact rd_mid _ _ _
      have hc := h.c (c := c) (by rw [e]; simp)
      rw [okT_iff] at hc
      refine impl_MirrorAxis.w0 (W.dt (by omega) (W.t (by omega) (W.t (by omega) (W.t (by simp; omega) ?_))))
      rw [hx, w64 (i := 0 - c.2.1) (by omega) (by omega), w64 (i := (pre.length : Int) + 1) (by omega) (by omega)]
      have := ih (pre ++ [c]) (by simp [e])
      simpa [mirC] using this
  exact key l [] rfl
/-! ### the reversed axis -/
theorem fold_rep (u : Cu) : ∀ (n : Nat) (i : List Cu) (d : Cu), d.2 = u.2 → ((List.replicate n u).foldl mstep (i ++ [d])).length = i.length + 1
  | 0, i, d, _ => by simp
  | n + 1, i, d, h => by
    rw [List.replicate_succ, List.foldl_cons, mstep_snoc, if_pos h]
    exact fold_rep u n i _ h
theorem fold_rep_le (u : Cu) (n : Nat) (acc : List Cu) : ((List.replicate n u).foldl mstep acc).length ≤ acc.length + 1 := by
  cases n with
  | zero => simp
  | succ n =>
    rw [List.replicate_succ, List.foldl_cons]
    rcases List.eq_nil_or_concat acc with rfl | ⟨i, d, rfl⟩
    · rw [mstep_nil, show [u] = [] ++ [u] from rfl, fold_rep u n [] u rfl]; simp
    · rw [List.concat_eq_append, mstep_snoc]
      split
      · rename_i e; rw [fold_rep u n i (d.1 + u.1, d.2) e]; simp
      · rw [fold_rep u n (i ++ [d]) u rfl]; simp
theorem merge_tl_length (l : List Cu) : (merge (tl l)).length ≤ l.length := by
  have : ∀ (l acc : List Cu), ((tl l).foldl mstep acc).length ≤ acc.length + l.length := by
    intro l
    induction l with
    | nil => intro acc; simp [tl]
    | cons c l ih =>
      intro acc
      rw [tl_cons, List.foldl_append]
      have h1 := ih ((List.replicate c.1.toNat (un c)).foldl mstep acc)
      have h2 := fold_rep_le (un c) c.1.toNat acc
      simp only [List.length_cons]; omega
  simpa [merge] using this l []
theorem tl_reverse (l : List Cu) : (tl l).reverse = tl l.reverse := by
  induction l with
  | nil => rfl
  | cons c l ih => rw [tl_cons, List.reverse_append, ih, List.reverse_replicate, List.reverse_cons, tl_app, tl_one]
theorem revR_blocks {p : Po} {l : List Cu} (h : Ok p l) : ∃ l', revR p (tl l) = tl l' ∧ l'.length = l.length + 1 := by
  rcases List.eq_nil_or_concat l with rfl | ⟨a, c, rfl⟩
  · have := h.2.1; simp at this
  · rw [List.concat_eq_append] at *
    have hc := (h.c (c := c) (by simp)).1
    have hd : (tl (a ++ [c])).dropLast = tl (a ++ [(c.1 - 1, c.2)]) := by
      rw [tl_app, tl_app, tl_one, tl_one, show c.1.toNat = (c.1 - 1).toNat + 1 by omega, List.replicate_succ', ← List.append_assoc, List.dropLast_concat]
      rfl
    refine ⟨(a ++ [(c.1 - 1, c.2)]).reverse ++ [(1, 0, 0)], ?_, by simp⟩
    rw [revR, hd, tl_reverse, tl_app]; rfl
theorem back_okP {p : Po} {l : List Cu} (h : Ok p l) : ∀ q ∈ (poses p l).dropLast, okP (back q) = true := by
  have chain : ∀ (ts : List Cu) (p : Po), (∀ q ∈ p :: scan p ts, okP q = true) → ∀ q ∈ (p :: scan p ts).dropLast, okP (back q) = true := by
    intro ts
    induction ts with
    | nil => intro p _ q hq; simp [scan] at hq
    | cons t ts ih =>
      intro p hok q hq
      have e : (p :: scan p (t :: ts)).dropLast = p :: (nxt p t :: scan (nxt p t) ts).dropLast := rfl
      rw [e] at hq
      rcases List.mem_cons.1 hq with rfl | hq
      · have h1 := hok q (by simp)
        have h2 := hok (nxt q t) (by simp [scan])
        rw [okP_iff] at h1 h2 ⊢
        simp only [nxt, back] at *
        omega
      · exact ih (nxt p t) (fun r hr => hok r (by
          rcases List.mem_cons.1 hr with rfl | hr
          · simp [scan]
          · simp [scan, hr])) q hq
  exact chain _ _ h.poses
/-- what of a reversed axis can be amiss -/
theorem rev_many {p : Po} {l : List Cu} (h : Ok p l) (hn : ¬Ok (revS p (tl l)) (merge (revR p (tl l)))) : 8 ≤ l.length := by
  refine Classical.byContradiction fun hlt => hn ?_
  have hlen := h.len
  have hone := revR_one p _ (un_tl l)
  have hrl := revR_length p (tl l) hlen.1
  have h0 : ∀ c ∈ revR p (tl l), 0 ≤ c.1 := fun c hc => by rw [hone c hc]; omega
  have htm : tl (merge (revR p (tl l))) = revR p (tl l) := by rw [tl_merge _ h0, tl_unit _ hone]
  have hd : (poses p l).dropLast = p :: scan p (tl l).dropLast := by
    rcases List.eq_nil_or_concat (tl l) with e | ⟨a, t, e⟩
    · rw [e] at hlen; simp at hlen
    · rw [List.concat_eq_append] at e
      rw [poses, e, scan_snoc, ← List.cons_append, List.dropLast_concat, List.dropLast_concat]
  have hO := scan_back p (tl l).dropLast
  have hall : ∀ q ∈ revS p (tl l) :: scan (revS p (tl l)) (revR p (tl l)), okP q = true := by
    intro q hq
    have hq' : q ∈ (p :: scan p (tl l).dropLast).reverse.map back ++ [fin0 p] := by rw [hO]; exact hq
    rcases List.mem_append.1 hq' with hq' | hq'
    · obtain ⟨r, hr, rfl⟩ := List.mem_map.1 hq'
      exact back_okP h r (by rw [hd]; exact List.mem_reverse.1 hr)
    · simp only [List.mem_singleton] at hq'; subst hq'
      have := h.1
      rw [okP_iff] at this ⊢
      simp only [fin0]; omega
  obtain ⟨l', hl', hll⟩ := revR_blocks h
  have hml : (merge (revR p (tl l))).length ≤ 8 := by
    have := merge_tl_length l'
    rw [← hl', hll] at this; omega
  have hsum := sumR_merge _ h0
  rw [sumR_one _ hone] at hsum
  have hm1 : 1 ≤ (merge (revR p (tl l))).length := by
    rcases Nat.eq_zero_or_pos (merge (revR p (tl l))).length with e | e
    · rw [List.length_eq_zero_iff.1 e, sumR_nil] at hsum; omega
    · exact e
  refine ⟨hall _ (by simp), ⟨hm1, hml⟩, fun c hc => ?_, by omega, fun q hq => hall q (by rw [htm] at hq; simp [hq])⟩
  refine merge_all (fun c => okC c = true) (fun c d hc hd e => ?_) (revR p (tl l)) (fun d hd => ?_) c hc
  · rw [okC_iff] at hc hd ⊢
    exact ⟨by simp only; omega, hc.2⟩
  · rw [okC_iff]
    refine ⟨by rw [hone d hd]; omega, ?_⟩
    simp only [revR, List.mem_append, List.mem_reverse, List.mem_singleton] at hd
    rcases hd with hd | rfl
    · exact okT_tl h d (List.dropLast_subset _ hd)
    · decide
end Go.Proofs.Ytkmnllcccgnliaa.R
