/- The machine: what the program's and the reference's functions on it answer. -/
import Derived.Test.YtncdmooobfomeaaXFnCyclesAxV
namespace Go.Proofs.Ytncdmooobfomeaa.R
open Go.Rv Go.Rv.Ax
open RowKit (wrap64)
set_option linter.unusedVariables false
set_option linter.unusedSimpArgs false
structure Mac where
  s : Po
  t : Po
  i : Int
def offV (x y z : Int) : Int := wrap64 (wrap64 (x - y) + wrap64 (2 * z))
def gapsV (m : Mac) : List Int := [wrap64 (40 - offV m.t.1 m.s.1 m.s.2.2.1), wrap64 (40 - offV m.t.2.1 m.s.2.1 m.s.2.2.2), wrap64 (40 + offV m.t.1 m.s.1 m.s.2.2.1), wrap64 (40 + offV m.t.2.1 m.s.2.1 m.s.2.2.2)]
def strV (m : Mac) : List Int := [wrap64 (m.i - wrap64 (2 * wrap64 (m.s.2.2.1 - m.t.2.2.1))), wrap64 (m.i - wrap64 (2 * wrap64 (m.s.2.2.2 - m.t.2.2.2))), wrap64 (m.i + wrap64 (2 * wrap64 (m.s.2.2.1 - m.t.2.2.1))), wrap64 (m.i + wrap64 (2 * wrap64 (m.s.2.2.2 - m.t.2.2.2)))]
theorem specGaps_eq (k : Nat) (m : Mac) : spec_l04Gaps.f k m.s.1 m.s.2.1 m.s.2.2.1 m.s.2.2.2 m.t.1 m.t.2.1 m.t.2.2.1 m.t.2.2.2 m.i = some (gapsV m) := rfl
theorem implGaps_eq (k : Nat) (m : Mac) : impl_Machine_gaps.f k m.s.1 m.s.2.1 m.s.2.2.1 m.s.2.2.2 m.t.1 m.t.2.1 m.t.2.2.1 m.t.2.2.2 m.i = some (gapsV m) := rfl
theorem implStr_eq (k : Nat) (m : Mac) : impl_Machine_strokes.f k m.s.1 m.s.2.1 m.s.2.2.1 m.s.2.2.2 m.t.1 m.t.2.1 m.t.2.2.1 m.t.2.2.2 m.i = some (strV m) := rfl
theorem tdiv2 (x : Int) : Int.tdiv (4 * x) 2 = 2 * x := by
  have : 4 * x = 2 * (2 * x) := by omega
  rw [this, Int.mul_tdiv_cancel_left _ (by decide)]
theorem specStr_eq (k : Nat) (m : Mac) (h1 : okP m.s = true) (h2 : okP m.t = true) : spec_l04Strokes.f k m.s.1 m.s.2.1 m.s.2.2.1 m.s.2.2.2 m.t.1 m.t.2.1 m.t.2.2.1 m.t.2.2.2 m.i = some (strV m) := by
  rw [okP_iff] at h1 h2
  unfold spec_l04Strokes.f strV
  rw [if_neg (by decide), if_neg (by decide), w64 (i := m.s.2.2.1 - m.t.2.2.1) (by omega) (by omega), w64 (i := m.s.2.2.2 - m.t.2.2.2) (by omega) (by omega), w64 (i := 4 * (m.s.2.2.1 - m.t.2.2.1)) (by omega) (by omega), w64 (i := 4 * (m.s.2.2.2 - m.t.2.2.2)) (by omega) (by omega), tdiv2, tdiv2]
def four (G S : List Int) : Bool := (!decide (rd 0 G 0 < 0) && inR 0 2400 (rd 0 S 0)) && ((!decide (rd 0 G 1 < 0) && inR 0 2400 (rd 0 S 1)) && ((!decide (rd 0 G 2 < 0) && inR 0 2400 (rd 0 S 2)) && ((!decide (rd 0 G 3 < 0) && inR 0 2400 (rd 0 S 3)) && true)))
def okM (m : Mac) : Bool := okP m.s && (okP m.t && (inR 0 2400 m.i && four (gapsV m) (strV m)))
theorem fourStep (G S : List Int) (hG : G.length = 4) (hS : S.length = 4) (i : Int) (h0 : 0 ≤ i) (h4 : i < 4) (R : Bool) (h : W (fun k m => (spec_l04Is.cs k m).2 G S (i + 1)) (· = R)) :
    W (fun k m => (spec_l04Is.cs k m).2 G S i) (· = ((!decide (rd 0 G i < 0) && inR 0 2400 (rd 0 S i)) && R)) := by
  refine spec_l04Is.w1 (W.dt h4 (W.t h0 (W.t (by omega) (W.di (fun hg => W.ret (by simp [hg])) (fun hg => W.t h0 (W.t (by omega) (W.bindN (fun k => l00In_eq k _ _ _) (W.ni (fun hs => W.ret (by simp [hs])) (fun hs => ?_)))))))))
  rw [w64 (by omega) (by omega)]
  have e : ((!decide (rd 0 G i < 0) && inR 0 2400 (rd 0 S i)) && R) = R := by simp [hg, hs]
  rw [e]; exact h
theorem macIs_w (m : Mac) : W (fun k _ => spec_l04Is.f k m.s.1 m.s.2.1 m.s.2.2.1 m.s.2.2.2 m.t.1 m.t.2.1 m.t.2.2.1 m.t.2.2.2 m.i) (· = okM m) := by
  refine spec_l04Is.w (W.bindN (fun k => specPose_eq k m.s) (W.ni (fun h => W.ret (by simp [okM, h])) (fun h1 => W.bindN (fun k => specPose_eq k m.t) (W.ni (fun h => W.ret (by simp [okM, h])) (fun h2 => W.bindN (fun k => l00In_eq k _ _ _) (W.ni (fun h => W.ret (by simp [okM, h])) (fun h3 => spec_l04Is.w0 (W.bindN (fun k => specGaps_eq k m) (W.bindN (fun k => specStr_eq k m h1 h2) ?_)))))))))
  have e : okM m = four (gapsV m) (strV m) := by simp [okM, h1, h2, h3]
  rw [e]
  have h4 : W (fun k n => (spec_l04Is.cs k n).2 (gapsV m) (strV m) 4) (· = true) := spec_l04Is.w1 (W.de (by omega) (W.ret rfl))
  exact fourStep _ _ rfl rfl 0 (by omega) (by omega) _ (fourStep _ _ rfl rfl 1 (by omega) (by omega) _ (fourStep _ _ rfl rfl 2 (by omega) (by omega) _ (fourStep _ _ rfl rfl 3 (by omega) (by omega) _ h4)))
def mn (b x : Int) : Int := if x < b then x else b
theorem min_w (x : Int) (l : List Int) (hl : l.length ≤ 1000) : W (fun k _ => slices_Min_int64.f k (x :: l)) (· = l.foldl mn x) := by
  have hL : (x :: l).length = l.length + 1 := rfl
  refine slices_Min_int64.w (W.de (by omega) (slices_Min_int64.w0 (W.t (by omega) (W.t (by omega) ?_))))
  have key : ∀ (rest pre : List Int) (b : Int), x :: l = pre ++ rest → b = pre.tail.foldl mn x → 1 ≤ pre.length → W (fun k m => (slices_Min_int64.cs k m).2 (x :: l) b (pre.length : Int)) (· = l.foldl mn x) := by
    intro rest
    induction rest with
    | nil =>
      intro pre b e hb h1
      refine slices_Min_int64.w1 (W.de (by rw [e]; simp) (W.ret ?_))
      rw [List.append_nil] at e; rw [hb, ← e]; rfl
    | cons y rest ih =>
      intro pre b e hb h1
      have hlen : (x :: l).length = pre.length + (rest.length + 1) := by rw [e]; simp
      have hx : rd 0 (x :: l) (pre.length : Int) = y := by rw [e]; exact rd_mid _ _ _
      refine slices_Min_int64.w1 (W.dt (by omega) (W.t (by omega) (W.t (by omega) ?_)))
      rw [hx, w64 (by omega) (by omega)]
      have := ih (pre ++ [y]) (mn b y) (by simp [e]) (by
        cases pre with
        | nil => simp at h1
        | cons p pre => simp only [List.cons_append, List.tail_cons, List.foldl_append] at hb ⊢; rw [hb]; rfl) (by simp)
      simpa [mn] using this
  exact key l [x] x rfl rfl (by simp)
theorem implValid_w (m : Mac) : W (fun k _ => impl_ValidMachine.f k m.s.1 m.s.2.1 m.s.2.2.1 m.s.2.2.2 m.t.1 m.t.2.1 m.t.2.2.1 m.t.2.2.2 m.i) (· = okM m) := by
  refine impl_ValidMachine.w (W.bindE (validPose_w m.s) (W.bi (fun h1 => W.bindE (validPose_w m.t) (W.bi (fun h2 => W.bindN (fun k => within_eq k _ _ _) (W.bi (fun h3 => W.bindN (fun k => implGaps_eq k m) ?_) (fun h => W.ret (by simp [okM, h])))) (fun h => W.ret (by simp [okM, h])))) (fun h => W.ret (by simp [okM, h]))))
  have e : okM m = four (gapsV m) (strV m) := by simp [okM, h1, h2, h3]
  rw [e]
  obtain ⟨g0, g1, g2, g3, hg⟩ : ∃ g0 g1 g2 g3, gapsV m = [g0, g1, g2, g3] := ⟨_, _, _, _, rfl⟩
  obtain ⟨s0, s1, s2, s3, hs⟩ : ∃ s0 s1 s2 s3, strV m = [s0, s1, s2, s3] := ⟨_, _, _, _, rfl⟩
  rw [hg]
  refine W.bindE (min_w g0 [g1, g2, g3] (by simp)) ?_
  have r0 : rd 0 [g0, g1, g2, g3] 0 = g0 := rfl
  have r1 : rd 0 [g0, g1, g2, g3] 1 = g1 := rfl
  have r2 : rd 0 [g0, g1, g2, g3] 2 = g2 := rfl
  have r3 : rd 0 [g0, g1, g2, g3] 3 = g3 := rfl
  have t0 : rd 0 [s0, s1, s2, s3] 0 = s0 := rfl
  have t1 : rd 0 [s0, s1, s2, s3] 1 = s1 := rfl
  have t2 : rd 0 [s0, s1, s2, s3] 2 = s2 := rfl
  have t3 : rd 0 [s0, s1, s2, s3] 3 = s3 := rfl
  have hmin : 0 ≤ [g1, g2, g3].foldl mn g0 ↔ 0 ≤ g0 ∧ 0 ≤ g1 ∧ 0 ≤ g2 ∧ 0 ≤ g3 := by
    simp only [List.foldl_cons, List.foldl_nil, mn]
    repeat' split
    all_goals omega
  refine W.di (fun h => ?_) (fun h => W.ret ?_)
  · have h := hmin.1 h
    refine W.bindN (fun k => implStr_eq k m) ?_
    rw [hs]
    refine W.bindE (areWithin_w _ _ _ (by simp)) (W.ret ?_)
    unfold four
    rw [r0, r1, r2, r3, t0, t1, t2, t3]
    have d0 : decide (g0 < 0) = false := by simp; omega
    have d1 : decide (g1 < 0) = false := by simp; omega
    have d2 : decide (g2 < 0) = false := by simp; omega
    have d3 : decide (g3 < 0) = false := by simp; omega
    rw [d0, d1, d2, d3]; simp
  · symm
    rw [Bool.eq_false_iff]
    intro h'
    unfold four at h'
    rw [r0, r1, r2, r3] at h'
    simp only [Bool.and_eq_true, Bool.not_eq_true', decide_eq_false_iff_not] at h'
    exact h (hmin.2 (by omega))
/-! ### one ring on -/
abbrev N10 := Int × Int × Int × Int × Int × Int × Int × Int × Int × Bool
def T10 (p : Mac × Bool) : N10 := (p.1.s.1, p.1.s.2.1, p.1.s.2.2.1, p.1.s.2.2.2, p.1.t.1, p.1.t.2.1, p.1.t.2.2.1, p.1.t.2.2.2, p.1.i, p.2)
def z9 : Mac × Bool := (⟨(0, 0, 0, 0), (0, 0, 0, 0), 0⟩, false)
def ifOk (m : Mac) : Mac × Bool := if okM m then (m, true) else z9
def turnV (x y : Int) : Int × Int := (T.impl_Ring_turn.f x y).getD (0, 0)
def ringB (x y : Int) : Bool := inR 0 1 x && inR 0 15 y
theorem turn_eq (k : Nat) (x y : Int) (h : ringB x y = true) : spec_l03Turn.f k x y = some (turnV x y) ∧ impl_Ring_turn.f k x y = some (turnV x y) := by
  simp only [ringB, Bool.and_eq_true, inR_iff] at h
  unfold turnV spec_l03Turn.f impl_Ring_turn.f T.impl_Ring_turn.f
  have hx : x = 0 ∨ x = 1 := by omega
  rcases hx with rfl | rfl
  · simp
  · rw [w64 (by omega) (by omega)]
    have hy : y = 0 ∨ y = 1 ∨ y = 2 ∨ y = 3 ∨ y = 4 ∨ y = 5 ∨ y = 6 ∨ y = 7 ∨ y = 8 ∨ y = 9 ∨ y = 10 ∨ y = 11 ∨ y = 12 ∨ y = 13 ∨ y = 14 ∨ y = 15 := by omega
    rcases hy with rfl | rfl | rfl | rfl | rfl | rfl | rfl | rfl | rfl | rfl | rfl | rfl | rfl | rfl | rfl | rfl <;> simp [T.impl_Ring_turn.tab, rd]
theorem ring_eq (k : Nat) (x y : Int) : spec_l03Is.f k x y = some (ringB x y) ∧ impl_ValidRing.f k x y = some (ringB x y) := by
  unfold spec_l03Is.f impl_ValidRing.f ringB
  simp only [l00In_eq, within_eq, Option.bind_some]
  cases inR 0 1 x <;> simp
def nxtW (p : Po) (t : Int × Int) : Po := (wrap64 (p.1 + p.2.2.1), wrap64 (p.2.1 + p.2.2.2), wrap64 (p.2.2.1 + t.1), wrap64 (p.2.2.2 + t.2))
def builtM (m : Mac) (t : Int × Int) : Mac := ⟨m.s, nxtW m.t t, wrap64 (m.i - 1500)⟩
def pushedM (m : Mac) (x y : Int) : Mac := ⟨nxtW m.s (x, y), m.t, wrap64 (m.i + 1500)⟩
def buildV (m : Mac) (x y : Int) : Mac × Bool := if ringB x y then ifOk (builtM m (turnV x y)) else z9
def pushV (m : Mac) (x y : Int) : Mac × Bool := if okT x y then ifOk (pushedM m x y) else z9
theorem ifOk_ok {m : Mac} (h : (ifOk m).2 = true) : okM (ifOk m).1 = true := by
  unfold ifOk at *
  split at h
  · rename_i hm; rw [if_pos hm]; exact hm
  · cases h
theorem buildV_ok {m : Mac} {x y : Int} (h : (buildV m x y).2 = true) : okM (buildV m x y).1 = true := by
  unfold buildV at *
  split at h
  · rename_i hr; rw [if_pos hr]; exact ifOk_ok h
  · cases h
theorem pushV_ok {m : Mac} {x y : Int} (h : (pushV m x y).2 = true) : okM (pushV m x y).1 = true := by
  unfold pushV at *
  split at h
  · rename_i hr; rw [if_pos hr]; exact ifOk_ok h
  · cases h
theorem specBuild_w (m : Mac) (x y : Int) : W (fun k _ => spec_l04Build.f k m.s.1 m.s.2.1 m.s.2.2.1 m.s.2.2.2 m.t.1 m.t.2.1 m.t.2.2.1 m.t.2.2.2 m.i x y) (· = T10 (buildV m x y)) := by
  refine spec_l04Build.w (W.bindN (fun k => (ring_eq k x y).1) (W.ni (fun h => W.ret (by rw [buildV, if_neg (by simp [h])]; rfl)) (fun h => W.bindN (fun k => (turn_eq k x y h).1) (W.bindN (fun k => rfl) (W.bindE (macIs_w (builtM m (turnV x y))) ?_)))))
  rw [buildV, if_pos h, ifOk]
  refine W.ni (fun h' => W.ret (by rw [if_neg (by simp [h'])]; rfl)) (fun h' => W.ret (by rw [if_pos h']; rfl))
theorem specPush_w (m : Mac) (x y : Int) : W (fun k _ => spec_l04Push.f k m.s.1 m.s.2.1 m.s.2.2.1 m.s.2.2.2 m.t.1 m.t.2.1 m.t.2.2.1 m.t.2.2.2 m.i x y) (· = T10 (pushV m x y)) := by
  refine spec_l04Push.w (W.bindN (fun k => specTurn_eq k x y) (W.ni (fun h => W.ret (by rw [pushV, if_neg (by simp [h])]; rfl)) (fun h => W.bindN (fun k => rfl) (W.bindE (macIs_w (pushedM m x y)) ?_))))
  rw [pushV, if_pos h, ifOk]
  refine W.ni (fun h' => W.ret (by rw [if_neg (by simp [h'])]; rfl)) (fun h' => W.ret (by rw [if_pos h']; rfl))
theorem implOk_w (m : Mac) : W (fun k _ => impl_Machine_valid.f k m.s.1 m.s.2.1 m.s.2.2.1 m.s.2.2.2 m.t.1 m.t.2.1 m.t.2.2.1 m.t.2.2.2 m.i) (· = T10 (ifOk m)) := by
  refine impl_Machine_valid.w (W.bindE (implValid_w m) ?_)
  rw [ifOk]
  refine W.ni (fun h' => W.ret (by rw [if_neg (by simp [h'])]; rfl)) (fun h' => W.ret (by rw [if_pos h']; rfl))
theorem implBuild_w (m : Mac) (x y : Int) : W (fun k _ => impl_BuildRing.f k m.s.1 m.s.2.1 m.s.2.2.1 m.s.2.2.2 m.t.1 m.t.2.1 m.t.2.2.1 m.t.2.2.2 m.i x y) (· = T10 (if okM m then buildV m x y else z9)) := by
  refine impl_BuildRing.w (W.bindE (implValid_w m) (W.ni (fun h => W.ret (by rw [if_neg (by simp [h])]; rfl)) (fun h => ?_)))
  rw [if_pos h]
  refine W.bindN (fun k => (ring_eq k x y).2) (W.ni (fun h => W.ret (by rw [buildV, if_neg (by simp [h])]; rfl)) (fun hr => impl_BuildRing.w0 (W.bindN (fun k => (turn_eq k x y hr).2) (W.bindN (fun k => rfl) (W.bindE (implOk_w (builtM m (turnV x y))) (W.ret ?_))))))
  rw [buildV, if_pos hr]
theorem implPush_w (m : Mac) (x y : Int) : W (fun k _ => impl_PushMachine.f k m.s.1 m.s.2.1 m.s.2.2.1 m.s.2.2.2 m.t.1 m.t.2.1 m.t.2.2.1 m.t.2.2.2 m.i x y) (· = T10 (if okM m then pushV m x y else z9)) := by
  refine impl_PushMachine.w (W.bindE (implValid_w m) (W.ni (fun h => W.ret (by rw [if_neg (by simp [h])]; rfl)) (fun h => ?_)))
  rw [if_pos h]
  refine W.bindE (isTurn_w x y) (W.ni (fun h => W.ret (by rw [pushV, if_neg (by simp [h])]; rfl)) (fun hr => impl_PushMachine.w0 (W.bindN (fun k => rfl) (W.bindE (implOk_w (pushedM m x y)) (W.ret ?_)))))
  rw [pushV, if_pos hr]
end Go.Proofs.Ytncdmooobfomeaa.R
