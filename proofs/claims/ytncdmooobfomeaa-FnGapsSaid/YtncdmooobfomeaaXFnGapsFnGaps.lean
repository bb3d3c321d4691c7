/- The gaps and strokes of a machine determine it, and the least gap is the first of the least: the plain statement. -/
import Derived.Test.YtncdmooobfomeaaXFnGapsDr4
import Derived.Test.YtncdmooobfomeaaRvPuFnGaps
namespace Go.Proofs.Ytncdmooobfomeaa.Pure
open Go.Rv Go.Rv.Ax R
open RowKit (wrap64)
set_option linter.unusedVariables false
set_option linter.unusedSimpArgs false
def sd (m : Mac) : Int := m.t.1 - m.s.1 + 2 * m.s.2.2.1
def hd (m : Mac) : Int := m.t.2.1 - m.s.2.1 + 2 * m.s.2.2.2
def sw (m : Mac) : Int := 2 * (m.s.2.2.1 - m.t.2.2.1)
def ti (m : Mac) : Int := 2 * (m.s.2.2.2 - m.t.2.2.2)
theorem gaps_of {m : Mac} (h1 : okP m.s = true) (h2 : okP m.t = true) : gapsV m = [40 - sd m, 40 - hd m, 40 + sd m, 40 + hd m] := by
  rw [okP_iff] at h1 h2
  have e1 : offV m.t.1 m.s.1 m.s.2.2.1 = sd m := by unfold offV; rw [w64 (i := m.t.1 - m.s.1) (by omega) (by omega), w64 (i := 2 * m.s.2.2.1) (by omega) (by omega), w64 (by omega) (by omega)]; rfl
  have e2 : offV m.t.2.1 m.s.2.1 m.s.2.2.2 = hd m := by unfold offV; rw [w64 (i := m.t.2.1 - m.s.2.1) (by omega) (by omega), w64 (i := 2 * m.s.2.2.2) (by omega) (by omega), w64 (by omega) (by omega)]; rfl
  have b1 : -300000 ≤ sd m ∧ sd m ≤ 300000 := by unfold sd; omega
  have b2 : -300000 ≤ hd m ∧ hd m ≤ 300000 := by unfold hd; omega
  unfold gapsV
  rw [e1, e2, w64 (i := 40 - sd m) (by omega) (by omega), w64 (i := 40 - hd m) (by omega) (by omega), w64 (i := 40 + sd m) (by omega) (by omega), w64 (i := 40 + hd m) (by omega) (by omega)]
theorem str_of {m : Mac} (h1 : okP m.s = true) (h2 : okP m.t = true) (h3 : 0 ≤ m.i ∧ m.i ≤ 2400) : strV m = [m.i - sw m, m.i - ti m, m.i + sw m, m.i + ti m] := by
  rw [okP_iff] at h1 h2
  have b1 : -3000 ≤ sw m ∧ sw m ≤ 3000 := by unfold sw; omega
  have b2 : -3000 ≤ ti m ∧ ti m ≤ 3000 := by unfold ti; omega
  unfold strV
  rw [w64 (i := m.s.2.2.1 - m.t.2.2.1) (by omega) (by omega), w64 (i := m.s.2.2.2 - m.t.2.2.2) (by omega) (by omega), w64 (i := 2 * (m.s.2.2.1 - m.t.2.2.1)) (by omega) (by omega), w64 (i := 2 * (m.s.2.2.2 - m.t.2.2.2)) (by omega) (by omega)]
  show [wrap64 (m.i - sw m), wrap64 (m.i - ti m), wrap64 (m.i + sw m), wrap64 (m.i + ti m)] = _
  rw [w64 (i := m.i - sw m) (by omega) (by omega), w64 (i := m.i - ti m) (by omega) (by omega), w64 (i := m.i + sw m) (by omega) (by omega), w64 (i := m.i + ti m) (by omega) (by omega)]
structure MOk (m : Mac) : Prop where
  s : okP m.s = true
  t : okP m.t = true
  i : 0 ≤ m.i ∧ m.i ≤ 2400
  g : gapsV m = [40 - sd m, 40 - hd m, 40 + sd m, 40 + hd m]
  r : strV m = [m.i - sw m, m.i - ti m, m.i + sw m, m.i + ti m]
  b : (-40 ≤ sd m ∧ sd m ≤ 40) ∧ (-40 ≤ hd m ∧ hd m ≤ 40)
  c : (0 ≤ m.i - sw m ∧ m.i - sw m ≤ 2400) ∧ (0 ≤ m.i - ti m ∧ m.i - ti m ≤ 2400) ∧ (0 ≤ m.i + sw m ∧ m.i + sw m ≤ 2400) ∧ (0 ≤ m.i + ti m ∧ m.i + ti m ≤ 2400)
theorem okM_of {m : Mac} (h : okM m = true) : MOk m := by
  simp only [okM, Bool.and_eq_true, inR_iff] at h
  obtain ⟨h1, h2, h3, h4⟩ := h
  have hg := gaps_of h1 h2
  have hr := str_of h1 h2 h3
  rw [hg, hr] at h4
  simp only [four, Bool.and_eq_true, Bool.not_eq_true', decide_eq_false_iff_not, inR_iff] at h4
  obtain ⟨⟨g0, s0⟩, ⟨g1, s1⟩, ⟨g2, s2⟩, ⟨g3, s3⟩, -⟩ := h4
  have g0 : ¬40 - sd m < 0 := g0
  have g1 : ¬40 - hd m < 0 := g1
  have g2 : ¬40 + sd m < 0 := g2
  have g3 : ¬40 + hd m < 0 := g3
  have s0 : 0 ≤ m.i - sw m ∧ m.i - sw m ≤ 2400 := s0
  have s1 : 0 ≤ m.i - ti m ∧ m.i - ti m ≤ 2400 := s1
  have s2 : 0 ≤ m.i + sw m ∧ m.i + sw m ≤ 2400 := s2
  have s3 : 0 ≤ m.i + ti m ∧ m.i + ti m ≤ 2400 := s3
  exact ⟨h1, h2, h3, hg, hr, ⟨by omega, by omega⟩, s0, s1, s2, s3⟩
theorem gapsOf_w {m : Mac} (h : okM m = true) : W (fun k _ => impl_GapsOf.f k m.s.1 m.s.2.1 m.s.2.2.1 m.s.2.2.2 m.t.1 m.t.2.1 m.t.2.2.1 m.t.2.2.2 m.i) (· = (gapsV m, true)) :=
  impl_GapsOf.w (W.bindE (implValid_w m) (W.ne h (W.bindN (fun k => implGaps_eq k m) (W.ret rfl))))
theorem strOf_w {m : Mac} (h : okM m = true) : W (fun k _ => impl_StrokesOf.f k m.s.1 m.s.2.1 m.s.2.2.1 m.s.2.2.2 m.t.1 m.t.2.1 m.t.2.2.1 m.t.2.2.2 m.i) (· = (strV m, true)) :=
  impl_StrokesOf.w (W.bindE (implValid_w m) (W.ne h (W.bindN (fun k => implStr_eq k m) (W.ret rfl))))
theorem cut_at {α : Type} (l : List α) (i : Int) (h : 0 ≤ i ∧ i < l.length) : ∃ A u B, l = A ++ u :: B ∧ (A.length : Int) = i :=
  ⟨l.take i.toNat, l[i.toNat]'(by omega), l.drop (i.toNat + 1), by simp, by simp; omega⟩
theorem r8At_w {c : List Int} (h : ∀ b ∈ c, 0 ≤ b ∧ b ≤ 255) (j n : Int) (hj : 0 ≤ j) (hn : 1 ≤ n) : W (fun k _ => laws_r8At.f k c j n) (fun (r : Int) => 0 ≤ r ∧ r < n) := by
  refine laws_r8At.w (W.di (fun _ => W.ret ⟨Int.le_refl 0, by omega⟩) (fun h1 => W.di (fun _ => W.ret ⟨Int.le_refl 0, by omega⟩) (fun h2 => W.t hj (W.t (by omega) (W.e (by omega) (W.ret ?_))))))
  obtain ⟨A, q, B, e, hA⟩ := cut_at c j (by omega)
  have hq : rd 0 c j = q := by rw [e, ← hA]; exact rd_mid _ _ _
  have := h q (by rw [e]; simp)
  rw [hq, w64 (by omega) (by omega)]
  exact ⟨Int.tmod_nonneg _ (by omega), Int.tmod_lt_of_pos _ (by omega)⟩
theorem find_w (xs : List Int) (v : Int) (hl : xs.length ≤ 1000) (hv : v ∈ xs) : W (fun k _ => slices_Index_int64.f k xs v) (fun (r : Int) => (0 ≤ r ∧ r < xs.length) ∧ rd 0 xs r = v ∧ ∀ j : Int, 0 ≤ j → j < r → rd 0 xs j ≠ v) := by
  refine slices_Index_int64.w ?_
  have key : ∀ (rest pre : List Int), xs = pre ++ rest → v ∈ rest → (∀ j : Int, 0 ≤ j → j < pre.length → rd 0 xs j ≠ v) → W (fun k i => (slices_Index_int64.cs k i) xs v (xs.length : Int) (pre.length : Int)) (fun (r : Int) => (0 ≤ r ∧ r < xs.length) ∧ rd 0 xs r = v ∧ ∀ j : Int, 0 ≤ j → j < r → rd 0 xs j ≠ v) := by
    intro rest
    induction rest with
    | nil => intro pre e hv; cases hv
    | cons x rest ih =>
      intro pre e hv hp
      have hlen : xs.length = pre.length + (rest.length + 1) := by rw [e]; simp
      have hx : rd 0 xs (pre.length : Int) = x := by rw [e]; exact rd_mid _ _ _
      refine slices_Index_int64.w0 (W.dt (by omega) (W.t (by omega) (W.t (by omega) ?_)))
      rw [hx, w64 (by omega) (by omega)]
      refine W.di (fun he => W.ret ⟨by omega, by rw [hx, he], hp⟩) (fun hne => ?_)
      have hv' : v ∈ rest := (List.mem_cons.1 hv).resolve_left hne
      have := ih (pre ++ [x]) (by simp [e]) hv' (fun j h0 h1 => by
        by_cases ej : j = (pre.length : Int)
        · rw [ej, hx]; exact fun h => hne h.symm
        · exact hp j h0 (by simp at h1; omega))
      rw [show ((pre ++ [x]).length : Int) = (pre.length : Int) + 1 by simp] at this
      exact this
  exact key xs [] rfl hv (fun j h0 h1 => by simp at h1; omega)
theorem equalI_w (a b : List Int) (hl : a.length ≤ 1000) : W (fun k _ => slices_Equal_int64.f k a b) (· = decide (a = b)) := by
  refine slices_Equal_int64.w (W.ndi (fun h => W.ret ?_) (fun h => ?_))
  · symm; rw [decide_eq_false_iff_not]; rintro rfl; exact h rfl
  have key : ∀ (r s pre pre' : List Int), a = pre ++ r → b = pre' ++ s → pre = pre' → W (fun k m => (slices_Equal_int64.cs k m) a b (a.length : Int) (pre.length : Int)) (· = decide (a = b)) := by
    intro r
    induction r with
    | nil =>
      intro s pre pre' e e' ep
      refine slices_Equal_int64.w0 (W.de (by rw [e]; simp) (W.ret ?_))
      symm; rw [decide_eq_true_eq, e, e', ep]
      have : s = [] := by rw [e, e', ep] at h; simp at h; exact List.length_eq_zero_iff.1 (by omega)
      rw [this]
    | cons x r ih =>
      intro s pre pre' e e' ep
      subst ep
      cases s with
      | nil => rw [e, e'] at h; simp at h; omega
      | cons y s =>
        have h1 : a.length = pre.length + (r.length + 1) := by rw [e]; simp
        have h2 : b.length = pre.length + (s.length + 1) := by rw [e']; simp
        have hx : rd 0 a (pre.length : Int) = x := by rw [e]; exact rd_mid _ _ _
        have hy : rd 0 b (pre.length : Int) = y := by rw [e']; exact rd_mid _ _ _
        refine slices_Equal_int64.w0 (W.dt (by omega) (W.t (by omega) (W.t (by omega) (W.t (by omega) (W.t (by omega) ?_)))))
        rw [hx, hy]
        refine W.ndi (fun hn => W.ret ?_) (fun hxy => ?_)
        · symm; rw [decide_eq_false_iff_not]
          intro hab
          rw [e, e'] at hab
          exact hn (List.cons.inj (List.append_cancel_left hab)).1
        · have := ih s (pre ++ [x]) (pre ++ [x]) (by simp [e]) (by simp [e', hxy]) rfl
          rw [w64 (by omega) (by omega)]
          simpa using this
  exact key a b [] [] rfl rfl rfl
theorem least_w {m : Mac} (h : okM m = true) : W (fun k _ => impl_LeastGap.f k m.s.1 m.s.2.1 m.s.2.2.1 m.s.2.2.2 m.t.1 m.t.2.1 m.t.2.2.1 m.t.2.2.2 m.i) (fun r => r.2.2 = true ∧ (0 ≤ r.2.1 ∧ r.2.1 < 4) ∧ ∀ j : Int, 0 ≤ j → j < 4 → r.1 ≤ rd 0 (gapsV m) j ∧ (j < r.2.1 → r.1 ≠ rd 0 (gapsV m) j) ∧ (j = r.2.1 → rd 0 (gapsV m) j = r.1)) := by
  obtain ⟨g0, g1, g2, g3, hg⟩ : ∃ g0 g1 g2 g3, gapsV m = [g0, g1, g2, g3] := ⟨_, _, _, _, rfl⟩
  refine impl_LeastGap.w (W.bindE (implValid_w m) (W.ne h (W.bindN (fun k => implGaps_eq k m) ?_)))
  rw [hg]
  refine W.bindE (min_w g0 [g1, g2, g3] (by simp)) (W.bindN (fun k => implGaps_eq k m) ?_)
  rw [hg]
  have hle : [g1, g2, g3].foldl mn g0 ≤ g0 ∧ [g1, g2, g3].foldl mn g0 ≤ g1 ∧ [g1, g2, g3].foldl mn g0 ≤ g2 ∧ [g1, g2, g3].foldl mn g0 ≤ g3 := by
    simp only [List.foldl_cons, List.foldl_nil, mn]
    repeat' split
    all_goals omega
  have hmem : [g1, g2, g3].foldl mn g0 ∈ [g0, g1, g2, g3] := by
    simp only [List.foldl_cons, List.foldl_nil, mn]
    repeat' split
    all_goals simp
  refine W.bind (find_w _ _ (by simp) hmem) fun (r : Int) hr => W.ret ⟨rfl, hr.1, fun j h0 h4 => ⟨?_, fun hj => fun e => hr.2.2 j h0 hj e.symm, fun hj => by rw [hj]; exact hr.2.1⟩⟩
  have hj : j = 0 ∨ j = 1 ∨ j = 2 ∨ j = 3 := by omega
  rcases hj with rfl | rfl | rfl | rfl
  · exact hle.1
  · exact hle.2.1
  · exact hle.2.2.1
  · exact hle.2.2.2
theorem floor_eq (k : Nat) (q b : Int) (hb : b = 2 ∨ b = 4) (hq : -100000 ≤ q ∧ q ≤ 100000) : impl_floorOf.f k (b * q) b = some q := by
  have h1 : (b * q).tmod b = 0 := Int.mul_tmod_right b q
  have h2 : (b * q).tdiv b = q := Int.mul_tdiv_cancel_left q (by omega)
  unfold impl_floorOf.f
  rw [h1, h2, if_neg (by omega), if_neg (by omega), if_neg (by simp), w64 (by omega) (by omega)]
def mkM (m : Mac) (g0 g1 : Int) : Mac := ⟨(m.t.1 + 2 * m.s.2.2.1 - (40 - g0), m.t.2.1 + 2 * m.s.2.2.2 - (40 - g1), m.s.2.2.1, m.s.2.2.2), m.t, m.i⟩
theorem valid9_w (a b c d e f g h i : Int) : W (fun k _ => impl_ValidMachine.f k a b c d e f g h i) (· = okM ⟨(a, b, c, d), (e, f, g, h), i⟩) := implValid_w ⟨(a, b, c, d), (e, f, g, h), i⟩
theorem from_m_w {m : Mac} (h : okM m = true) (g0 g1 g2 g3 : Int) (hb : (-1000 ≤ g0 ∧ g0 ≤ 1000) ∧ (-1000 ≤ g1 ∧ g1 ≤ 1000)) : W (fun k _ => impl_MachineFrom.f k m.t.1 m.t.2.1 m.t.2.2.1 m.t.2.2.2 [g0, g1, g2, g3] (strV m))
    (· = if ([g0, g1, g2, g3].all (inR 0 80) && (okM (mkM m g0 g1) && decide (gapsV (mkM m g0 g1) = [g0, g1, g2, g3]))) = true then T10 (mkM m g0 g1, true) else T10 z9) := by
  have ho := okM_of h
  obtain ⟨o1, o2, o3, o4, hr, o6, o7⟩ := ho
  have o1' := okP_iff.1 o1
  have o2' := okP_iff.1 o2
  have hsa : (strV m).all (inR 0 2400) = true := by
    rw [hr]; simp only [List.all_cons, List.all_nil, Bool.and_true, Bool.and_eq_true, inR_iff]; exact o7
  have hsl : ((strV m).length : Int) = 4 := by rw [hr]; rfl
  refine impl_MachineFrom.w (W.bindE (validPose_w m.t) (W.ne o2 (W.nde rfl (W.nde hsl (W.bindE (areWithin_w _ _ _ (by simp)) (W.ni (fun hG => W.ret ?_) (fun hG => W.bindE (areWithin_w _ _ _ (by omega)) (W.ne hsa (impl_MachineFrom.w0 ?_)))))))))
  · rw [if_neg (by rw [hG]; simp)]; rfl
  rw [hG, Bool.true_and]
  have q0 : rd 0 (strV m) 0 = m.i - sw m := by rw [hr]; rfl
  have q1 : rd 0 (strV m) 1 = m.i - ti m := by rw [hr]; rfl
  have q2 : rd 0 (strV m) 2 = m.i + sw m := by rw [hr]; rfl
  have q3 : rd 0 (strV m) 3 = m.i + ti m := by rw [hr]; rfl
  have p0 : rd 0 [g0, g1, g2, g3] 0 = g0 := rfl
  have p1 : rd 0 [g0, g1, g2, g3] 1 = g1 := rfl
  have e1 : wrap64 (m.i - sw m + (m.i + sw m)) = 2 * m.i := by rw [w64 (by omega) (by omega)]; omega
  have e2 : wrap64 (m.i + sw m - (m.i - sw m)) = 4 * (m.s.2.2.1 - m.t.2.2.1) := by rw [w64 (by omega) (by omega)]; unfold sw; omega
  have e3 : wrap64 (m.i + ti m - (m.i - ti m)) = 4 * (m.s.2.2.2 - m.t.2.2.2) := by rw [w64 (by omega) (by omega)]; unfold ti; omega
  have e4 : wrap64 (m.t.2.2.1 + (m.s.2.2.1 - m.t.2.2.1)) = m.s.2.2.1 := by rw [w64 (by omega) (by omega)]; omega
  have e5 : wrap64 (m.t.2.2.2 + (m.s.2.2.2 - m.t.2.2.2)) = m.s.2.2.2 := by rw [w64 (by omega) (by omega)]; omega
  have e6 : wrap64 (wrap64 (m.t.1 + wrap64 (2 * m.s.2.2.1)) - wrap64 (40 - g0)) = m.t.1 + 2 * m.s.2.2.1 - (40 - g0) := by
    rw [w64 (i := 2 * m.s.2.2.1) (by omega) (by omega), w64 (i := 40 - g0) (by omega) (by omega), w64 (i := m.t.1 + 2 * m.s.2.2.1) (by omega) (by omega), w64 (by omega) (by omega)]
  have e7 : wrap64 (wrap64 (m.t.2.1 + wrap64 (2 * m.s.2.2.2)) - wrap64 (40 - g1)) = m.t.2.1 + 2 * m.s.2.2.2 - (40 - g1) := by
    rw [w64 (i := 2 * m.s.2.2.2) (by omega) (by omega), w64 (i := 40 - g1) (by omega) (by omega), w64 (i := m.t.2.1 + 2 * m.s.2.2.2) (by omega) (by omega), w64 (by omega) (by omega)]
  rw [q0, q1, q2, q3, p0, p1, e1, e2, e3]
  refine W.t (by omega) (W.t (by omega) (W.t (by omega) (W.t (by omega) (W.bindN (fun k => floor_eq k _ 2 (.inl rfl) (by omega)) ?_))))
  refine W.t (by omega) (W.t (by omega) (W.t (by omega) (W.t (by omega) (W.bindN (fun k => floor_eq k _ 4 (.inr rfl) (by omega)) ?_))))
  refine W.t (by omega) (W.t (by omega) (W.t (by omega) (W.t (by omega) (W.bindN (fun k => floor_eq k _ 4 (.inr rfl) (by omega)) ?_))))
  simp only [e4, e5, e6, e7]
  refine W.t (by omega) (W.t (by simp) (W.t (by omega) (W.t (by simp) (W.bindE (implValid_w (mkM m g0 g1)) (W.ni (fun hv => W.ret ?_) (fun hv => W.bindN (fun k => implGaps_eq k (mkM m g0 g1)) (W.bindE (equalI_w _ _ (by simp [gapsV])) (W.ni (fun he => W.ret ?_) (fun he => W.bindN (fun k => implStr_eq k (mkM m g0 g1)) (W.bindE (equalI_w _ _ (by simp [strV])) (W.ne (by simp; rfl) (W.ret ?_))))))))))))
  · rw [if_neg (by simp [hv])]; rfl
  · rw [if_neg (by rw [he]; simp)]; rfl
  · rw [if_pos (by rw [hv, he]; rfl)]; rfl
theorem FnGaps : PureFnGaps := by
  intro c0 c1 h0 h1
  refine W.yes (laws_FnGaps.w ?_)
  refine W.bind (laws_r8Long.w (W.di (fun h => W.ret (P := fun _ => True) trivial) (fun h => W.ret trivial))) fun b _ => ?_
  refine W.bi (fun h => W.ret rfl) (fun h => ?_)
  refine W.bind (r8Machine_w fun b hb => wf_u8 (h0.2 b hb)) ?_
  rintro ⟨a1, a2, a3, a4, b1, b2, b3, b4, i⟩ hm
  have hm : okM ⟨(a1, a2, a3, a4), (b1, b2, b3, b4), i⟩ = true := hm
  have hc1 : ∀ b ∈ c1, 0 ≤ b ∧ b ≤ 255 := fun b hb => wf_u8 (h1.2 b hb)
  refine W.bindE (gapsOf_w hm) (W.bindE (strOf_w hm) (W.bind (least_w hm) ?_))
  rintro ⟨least, at', okk⟩ ⟨hk, hat, hall⟩
  dsimp only at hk hat hall ⊢
  have ho := okM_of hm
  generalize hM : (⟨(a1, a2, a3, a4), (b1, b2, b3, b4), i⟩ : Mac) = m at *
  have E1 : a1 = m.s.1 := by rw [← hM]
  have E2 : a2 = m.s.2.1 := by rw [← hM]
  have E3 : a3 = m.s.2.2.1 := by rw [← hM]
  have E4 : a4 = m.s.2.2.2 := by rw [← hM]
  have E5 : b1 = m.t.1 := by rw [← hM]
  have E6 : b2 = m.t.2.1 := by rw [← hM]
  have E7 : b3 = m.t.2.2.1 := by rw [← hM]
  have E8 : b4 = m.t.2.2.2 := by rw [← hM]
  have E9 : i = m.i := by rw [← hM]
  rw [E1, E2, E3, E4, E5, E6, E7, E8, E9]
  have hgl : ((gapsV m).length : Int) = 4 := by rw [ho.g]; rfl
  have hsl : ((strV m).length : Int) = 4 := by rw [ho.r]; rfl
  obtain ⟨o1, o2, o3, hg, hr, o6, o7⟩ := ho
  have o1' := okP_iff.1 o1
  have o2' := okP_iff.1 o2
  refine W.ne rfl (W.ne rfl (W.ne hk (W.nde hgl (W.nde hsl (W.de (by omega) (W.de (by omega) (laws_FnGaps.w0 ?_)))))))
  have q0 : rd 0 (strV m) 0 = m.i - sw m := by rw [hr]; rfl
  have q1 : rd 0 (strV m) 1 = m.i - ti m := by rw [hr]; rfl
  have q2 : rd 0 (strV m) 2 = m.i + sw m := by rw [hr]; rfl
  have q3 : rd 0 (strV m) 3 = m.i + ti m := by rw [hr]; rfl
  have p0 : rd 0 (gapsV m) 0 = 40 - sd m := by rw [hg]; rfl
  have p1 : rd 0 (gapsV m) 1 = 40 - hd m := by rw [hg]; rfl
  have p2 : rd 0 (gapsV m) 2 = 40 + sd m := by rw [hg]; rfl
  have p3 : rd 0 (gapsV m) 3 = 40 + hd m := by rw [hg]; rfl
  -- the machine again, and no machine of other gaps
  have last : W (fun k j => (laws_FnGaps.cs k j).2.2.2 c1 m.s.1 m.s.2.1 m.s.2.2.1 m.s.2.2.2 m.t.1 m.t.2.1 m.t.2.2.1 m.t.2.2.2 m.i (gapsV m) (strV m)) (· = true) := by
    refine laws_FnGaps.w3 ?_
    rw [p0, p1, p2, p3]
    refine W.bind (P := (· = true)) (r8At_w hc1 0 4 (by omega) (by omega)) fun (t : Int) ht => ?_
    refine W.t (by omega) (W.t (by omega) (W.t (by omega) (W.t (by omega) (W.t (by omega) (W.t (by omega) (W.t (by omega) (W.t (by omega) (W.t ht.1 (W.t ht.2 (W.t ht.1 (W.t ht.2 ?_)))))))))))
    have bent : ∀ g0 g1 g2 g3 : Int, (-1000 ≤ g0 ∧ g0 ≤ 1000) ∧ (-1000 ≤ g1 ∧ g1 ≤ 1000) → g0 + g1 + g2 + g3 = 161 → W (fun k (j : Nat) => (impl_MachineFrom.f k m.t.1 m.t.2.1 m.t.2.2.1 m.t.2.2.2 [g0, g1, g2, g3] (strV m)).bind fun t8 => some (!t8.2.2.2.2.2.2.2.2.2)) (· = true) := by
      intro g0 g1 g2 g3 hb hs
      refine W.bindE (from_m_w hm g0 g1 g2 g3 hb) (W.ret ?_)
      rw [if_neg]
      · rfl
      · intro hc
        simp only [Bool.and_eq_true, decide_eq_true_eq] at hc
        have h2 := (okM_of hc.2.1).g
        rw [hc.2.2] at h2
        simp only [List.cons.injEq, and_true] at h2
        omega
    have ht4 : t = 0 ∨ t = 1 ∨ t = 2 ∨ t = 3 := by have := ht.2; omega
    rcases ht4 with rfl | rfl | rfl | rfl
    · show W (fun k j => (impl_MachineFrom.f k m.t.1 m.t.2.1 m.t.2.2.1 m.t.2.2.2 [wrap64 (40 - sd m + 1), 40 - hd m, 40 + sd m, 40 + hd m] (strV m)).bind fun t8 => some (!t8.2.2.2.2.2.2.2.2.2)) (· = true)
      rw [w64 (by omega) (by omega)]; exact bent _ _ _ _ (by omega) (by omega)
    · show W (fun k j => (impl_MachineFrom.f k m.t.1 m.t.2.1 m.t.2.2.1 m.t.2.2.2 [40 - sd m, wrap64 (40 - hd m + 1), 40 + sd m, 40 + hd m] (strV m)).bind fun t8 => some (!t8.2.2.2.2.2.2.2.2.2)) (· = true)
      rw [w64 (by omega) (by omega)]; exact bent _ _ _ _ (by omega) (by omega)
    · show W (fun k j => (impl_MachineFrom.f k m.t.1 m.t.2.1 m.t.2.2.1 m.t.2.2.2 [40 - sd m, 40 - hd m, wrap64 (40 + sd m + 1), 40 + hd m] (strV m)).bind fun t8 => some (!t8.2.2.2.2.2.2.2.2.2)) (· = true)
      rw [w64 (by omega) (by omega)]; exact bent _ _ _ _ (by omega) (by omega)
    · show W (fun k j => (impl_MachineFrom.f k m.t.1 m.t.2.1 m.t.2.2.1 m.t.2.2.2 [40 - sd m, 40 - hd m, 40 + sd m, wrap64 (40 + hd m + 1)] (strV m)).bind fun t8 => some (!t8.2.2.2.2.2.2.2.2.2)) (· = true)
      rw [w64 (by omega) (by omega)]; exact bent _ _ _ _ (by omega) (by omega)
  have again : W (fun k (j : Nat) => impl_MachineFrom.f k m.t.1 m.t.2.1 m.t.2.2.1 m.t.2.2.2 (gapsV m) (strV m)) (· = T10 (m, true)) := by
    have hmk : mkM m (40 - sd m) (40 - hd m) = m := by
      obtain ⟨⟨s1, s2, s3, s4⟩, ⟨t1, t2, t3, t4⟩, i⟩ := m
      simp only [mkM, sd, hd, Mac.mk.injEq, Prod.mk.injEq, and_true]
      omega
    have := from_m_w hm (40 - sd m) (40 - hd m) (40 + sd m) (40 + hd m) (by omega)
    rw [hmk, ← hg, hm, if_pos] at this
    · exact this
    · rw [hg]; simp only [List.all_cons, List.all_nil, Bool.and_true, Bool.and_eq_true, inR_iff, decide_eq_true_eq]
      exact ⟨by omega, by simp⟩
  have two : ∀ (n : Nat) (j : Int), j + n = 4 → 0 ≤ j → W (fun k o => (laws_FnGaps.cs k o).2.2.1 c1 m.s.1 m.s.2.1 m.s.2.2.1 m.s.2.2.2 m.t.1 m.t.2.1 m.t.2.2.1 m.t.2.2.2 m.i (gapsV m) (strV m) least at' j) (· = true) := by
    intro n
    induction n with
    | zero =>
      intro j hj hj0
      refine laws_FnGaps.w2 (W.de (by omega) (W.bindE again (W.ne rfl (W.ne ?_ last))))
      simp [T10]
    | succ n ih =>
      intro j hj hj0
      have next := ih (j + 1) (by omega) (by omega)
      obtain ⟨l1, l2, l3⟩ := hall j hj0 (by omega)
      refine laws_FnGaps.w2 (W.dt (by omega) (W.t hj0 (W.t (by omega) ?_)))
      rw [w64 (i := j + 1) (by omega) (by omega)]
      refine W.de (by omega) (W.t hj0 (W.t (by omega) (W.di (fun he => W.de (fun hlt => l2 hlt he.symm) (W.di (fun hj' => W.t hj0 (W.t (by omega) (W.nde (l3 hj') next))) (fun _ => next))) (fun _ => W.di (fun hj' => W.t hj0 (W.t (by omega) (W.nde (l3 hj') next))) (fun _ => next)))))
  refine laws_FnGaps.w1 (W.dt (by omega) ?_)
  rw [w64 (i := (0 : Int) + 2) (by omega) (by omega), w64 (i := (0 : Int) + 1) (by omega) (by omega), w64 (i := 2 * m.i) (by omega) (by omega)]
  show W (fun k o => if (0 : Int) ≤ 0 then if (0 : Int) < ((gapsV m).length : Int) then if (0 : Int) ≤ 2 then if (2 : Int) < ((gapsV m).length : Int) then (if (!decide ((wrap64 ((rd 0 (gapsV m) 0) + (rd 0 (gapsV m) 2))) = 80)) = true then some false else if (0 : Int) ≤ 0 then if (0 : Int) < ((strV m).length : Int) then if (0 : Int) ≤ 2 then if (2 : Int) < ((strV m).length : Int) then (if (!decide ((wrap64 ((rd 0 (strV m) 0) + (rd 0 (strV m) 2))) = 2 * m.i)) = true then some false else (laws_FnGaps.cs k o).2.1 c1 m.s.1 m.s.2.1 m.s.2.2.1 m.s.2.2.2 m.t.1 m.t.2.1 m.t.2.2.1 m.t.2.2.2 m.i (gapsV m) (strV m) least at' 1) else none else none else none else none) else none else none else none else none) _
  rw [p0, p2, q0, q2]
  refine W.t (by omega) (W.t (by omega) (W.t (by omega) (W.t (by omega) (W.nde (by rw [w64 (by omega) (by omega)]; omega) (W.t (by omega) (W.t (by omega) (W.t (by omega) (W.t (by omega) (W.nde (by rw [w64 (by omega) (by omega)]; omega) ?_)))))))))
  refine laws_FnGaps.w1 (W.dt (by omega) ?_)
  rw [w64 (i := (1 : Int) + 2) (by omega) (by omega), w64 (i := (1 : Int) + 1) (by omega) (by omega), w64 (i := 2 * m.i) (by omega) (by omega)]
  show W (fun k o => if (0 : Int) ≤ 1 then if (1 : Int) < ((gapsV m).length : Int) then if (0 : Int) ≤ 3 then if (3 : Int) < ((gapsV m).length : Int) then (if (!decide ((wrap64 ((rd 0 (gapsV m) 1) + (rd 0 (gapsV m) 3))) = 80)) = true then some false else if (0 : Int) ≤ 1 then if (1 : Int) < ((strV m).length : Int) then if (0 : Int) ≤ 3 then if (3 : Int) < ((strV m).length : Int) then (if (!decide ((wrap64 ((rd 0 (strV m) 1) + (rd 0 (strV m) 3))) = 2 * m.i)) = true then some false else (laws_FnGaps.cs k o).2.1 c1 m.s.1 m.s.2.1 m.s.2.2.1 m.s.2.2.2 m.t.1 m.t.2.1 m.t.2.2.1 m.t.2.2.2 m.i (gapsV m) (strV m) least at' 2) else none else none else none else none) else none else none else none else none) _
  rw [p1, p3, q1, q3]
  refine W.t (by omega) (W.t (by omega) (W.t (by omega) (W.t (by omega) (W.nde (by rw [w64 (by omega) (by omega)]; omega) (W.t (by omega) (W.t (by omega) (W.t (by omega) (W.t (by omega) (W.nde (by rw [w64 (by omega) (by omega)]; omega) ?_)))))))))
  exact laws_FnGaps.w1 (W.de (by omega) (two 4 0 (by omega) (by omega)))
end Go.Proofs.Ytncdmooobfomeaa.Pure
