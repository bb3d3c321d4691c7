/- Cycles done one by one are the cycles done together, and the tube has their poses: the plain statement. -/
import Derived.Test.YtncdmooobfomeaaXFnCyclesTube
import Derived.Test.YtncdmooobfomeaaXFnCyclesDr4
import Derived.Test.YtncdmooobfomeaaRvPuFnCycles
namespace Go.Proofs.Ytncdmooobfomeaa.Pure
open Go.Rv Go.Rv.Ax R
open RowKit (wrap64)
set_option linter.unusedVariables false
set_option linter.unusedSimpArgs false
theorem okM_s {m : Mac} (h : okM m = true) : okP m.s = true := by simp only [okM, Bool.and_eq_true] at h; exact h.1
theorem okM_t {m : Mac} (h : okM m = true) : okP m.t = true := by simp only [okM, Bool.and_eq_true] at h; exact h.2.1
theorem okM_i {m : Mac} (h : okM m = true) : 0 ≤ m.i ∧ m.i ≤ 2400 := by simp only [okM, Bool.and_eq_true, inR_iff] at h; exact h.2.2.1
theorem ifOk_eq {m : Mac} (h : (ifOk m).2 = true) : ifOk m = (m, true) ∧ okM m = true := by
  unfold ifOk at *
  split at h
  · rename_i hm; exact ⟨if_pos hm, hm⟩
  · cases h
theorem push_eq {m : Mac} {x y : Int} (h : (pushV m x y).2 = true) : okT x y = true ∧ pushV m x y = (pushedM m x y, true) ∧ okM (pushedM m x y) = true := by
  unfold pushV at *
  split at h
  · rename_i hr; rw [if_pos hr]; exact ⟨hr, ifOk_eq h⟩
  · cases h
theorem build_eq {m : Mac} {x y : Int} (h : (buildV m x y).2 = true) : ringB x y = true ∧ buildV m x y = (builtM m (turnV x y), true) ∧ okM (builtM m (turnV x y)) = true := by
  unfold buildV at *
  split at h
  · rename_i hr; rw [if_pos hr]; exact ⟨hr, ifOk_eq h⟩
  · cases h
theorem turn_ok {x y : Int} (h : ringB x y = true) : okT (turnV x y).1 (turnV x y).2 = true := by
  simp only [ringB, Bool.and_eq_true, inR_iff] at h
  have hx : x = 0 ∨ x = 1 := by omega
  rcases hx with rfl | rfl
  · rfl
  · have hy : y = 0 ∨ y = 1 ∨ y = 2 ∨ y = 3 ∨ y = 4 ∨ y = 5 ∨ y = 6 ∨ y = 7 ∨ y = 8 ∨ y = 9 ∨ y = 10 ∨ y = 11 ∨ y = 12 ∨ y = 13 ∨ y = 14 ∨ y = 15 := by omega
    rcases hy with rfl | rfl | rfl | rfl | rfl | rfl | rfl | rfl | rfl | rfl | rfl | rfl | rfl | rfl | rfl | rfl <;> rfl
theorem turnOf_w {x y : Int} (h : ringB x y = true) : W (fun k _ => impl_TurnOf.f k x y) (· = ((turnV x y).1, (turnV x y).2, true)) :=
  impl_TurnOf.w (W.bindN (fun k => (ring_eq k x y).2) (W.ne h (W.bindN (fun k => (turn_eq k x y h).2) (W.ret rfl))))
theorem nextP_w {p : Po} {x y : Int} (hp : okP p = true) (ht : okT x y = true) (hn : okP (nxtW p (x, y)) = true) : W (fun k _ => impl_NextPose.f k p.1 p.2.1 p.2.2.1 p.2.2.2 x y) (· = ((nxtW p (x, y)).1, (nxtW p (x, y)).2.1, (nxtW p (x, y)).2.2.1, (nxtW p (x, y)).2.2.2, true)) :=
  impl_NextPose.w (W.bindE (validPose_w p) (W.ne hp (W.bindE (isTurn_w x y) (W.ne ht (W.bindN (fun k => rfl) (W.bindE (validPose_w (nxtW p (x, y))) (W.ne hn (W.bindN (fun k => rfl) (W.ret rfl)))))))))
def doR : Mac → List Po → Int → Mac × Int
  | m, [], i => (m, i)
  | m, c :: l, i => if (cyc m c).2 then doR (cyc m c).1 l (i + 1) else (m, i)
theorem doR_le : ∀ (l : List Po) (m : Mac) (i : Int), i ≤ (doR m l i).2 ∧ (doR m l i).2 ≤ i + l.length
  | [], m, i => by simp [doR]
  | c :: l, m, i => by
    rw [doR]
    split
    · have := doR_le l (cyc m c).1 (i + 1); simp only [List.length_cons]; omega
    · simp only [List.length_cons]; omega
theorem doR_all : ∀ (l : List Po) (m : Mac) (i : Int), (tubeR m l).isSome = decide ((doR m l i).2 = i + l.length)
  | [], m, i => by simp [doR, tubeR]
  | c :: l, m, i => by
    rw [doR, tubeR]
    split
    · have := doR_all l (cyc m c).1 (i + 1)
      rw [Option.isSome_map, this]
      simp only [List.length_cons, decide_eq_decide]; omega
    · simp only [List.length_cons, Option.isSome_none, Bool.false_eq, decide_eq_false_iff_not]; omega
abbrev N11 := Int × Int × Int × Int × Int × Int × Int × Int × Int × Int × Bool
def T11 (p : Mac × Int) : N11 := (p.1.s.1, p.1.s.2.1, p.1.s.2.2.1, p.1.s.2.2.2, p.1.t.1, p.1.t.2.1, p.1.t.2.2.1, p.1.t.2.2.2, p.1.i, p.2, true)
theorem do_w (m : Mac) (l : List Po) (hm : okM m = true) (hl : l.length ≤ 20) : W (fun k _ => impl_DoCycles.f k m.s.1 m.s.2.1 m.s.2.2.1 m.s.2.2.2 m.t.1 m.t.2.1 m.t.2.2.1 m.t.2.2.2 m.i l) (· = T11 (doR m l 0)) := by
  refine impl_DoCycles.w (W.bindE (implValid_w m) (W.ne hm (W.de (by omega) (impl_DoCycles.w0 ?_))))
  have key : ∀ (rest pre : List Po) (n : Mac), l = pre ++ rest → okM n = true → doR m l 0 = doR n rest (pre.length : Int) →
      W (fun k j => (impl_DoCycles.cs k j).2 l n.s.1 n.s.2.1 n.s.2.2.1 n.s.2.2.2 n.t.1 n.t.2.1 n.t.2.2.1 n.t.2.2.2 n.i 0 0 0 0 0 0 0 0 0 l (l.length : Int) (pre.length : Int)) (· = T11 (doR m l 0)) := by
    intro rest
    induction rest with
    | nil =>
      intro pre n e hn hd
      refine impl_DoCycles.w1 (W.de (by rw [e]; simp) (W.ret ?_))
      rw [hd, doR, e]; simp [T11]
    | cons c rest ih =>
      intro pre n e hn hd
      have hlen : l.length = pre.length + (rest.length + 1) := by rw [e]; simp
      have hx : rd (0, (0, (0, 0))) l (pre.length : Int) = c := by rw [e]; exact rd_mid _ _ _
      refine impl_DoCycles.w1 (W.dt (by omega) (W.t (by omega) (W.t (by omega) ?_)))
      rw [hx]
      refine W.bindE (implCycle_w n c hn) (W.ni (fun hc => W.ret ?_) (fun hc => ?_))
      · have hc : (cyc n c).2 = false := hc
        rw [hd, doR, if_neg (by simp [hc])]; rfl
      · have hc : (cyc n c).2 = true := hc
        rw [doR, if_pos hc] at hd
        have hp : ((pre ++ [c]).length : Int) = (pre.length : Int) + 1 := by simp
        have := ih (pre ++ [c]) (cyc n c).1 (by simp [e]) (cyc_ok hc) (by rw [hp]; exact hd)
        rw [hp] at this
        rw [w64 (by omega) (by omega)]
        exact this
  exact key l [] m rfl hm rfl
theorem cycles_w {c : List Int} (h : ∀ b ∈ c, 0 ≤ b ∧ b ≤ 255) : W (fun k _ => spec_R8Cycles.f k c) (fun (r : List Po) => r.length ≤ 20) := by
  refine spec_R8Cycles.w (W.bind (from_w h) ?_)
  rintro ⟨c0, a0, s0⟩ g0
  refine W.bind (pick_w g0 (by omega)) ?_
  rintro ⟨r1, c1, a1, s1⟩ ⟨q1, g1⟩
  dsimp only at q1 g1 ⊢
  have key : ∀ (n : Nat) (l : List Po) (c : List Int) (a s : Int), l.length + n ≤ 6 → Sr c a (100 + 100 * l.length) → W (fun k j => (spec_R8Cycles.cs k j).1 l (n : Int) c a s) (fun (r : List Po) => r.length ≤ 20) := by
    intro n
    induction n with
    | zero => intro l c a s hl g; exact spec_R8Cycles.w0 (W.de (by omega) (W.ret (by omega)))
    | succ n ih =>
      intro l c a s hl g
      refine spec_R8Cycles.w0 (W.dt (by omega) (W.bind (pick_w g (by omega)) ?_))
      rintro ⟨r3, c3, a3, s3⟩ ⟨-, g3⟩
      refine W.bind (one_w g3 (by omega)) ?_
      rintro ⟨r4, c4, a4, s4⟩ g4
      dsimp only at g3 g4 ⊢
      have fin : ∀ z1 z2 z4 z5, W (fun k j => (spec_R8Cycles.cs k j).2 l ((n + 1 : Nat) : Int) z1 z2 z4 z5 c4 a4 s4) (fun (r : List Po) => r.length ≤ 20) := by
        intro z1 z2 z4 z5
        refine spec_R8Cycles.w1 (W.bind (pick_w g4 (by omega)) ?_)
        rintro ⟨r5, c5, a5, s5⟩ ⟨-, g5⟩
        refine W.bind (pick_w g5 (by omega)) ?_
        rintro ⟨r6, c6, a6, s6⟩ ⟨-, g6⟩
        dsimp only at g6 ⊢
        refine W.t (by omega) ?_
        rw [w64 (i := ((n + 1 : Nat) : Int) - 1) (by omega) (by omega), show ((n + 1 : Nat) : Int) - 1 = (n : Int) by omega]
        exact ih _ c6 a6 s6 (by simp; omega) (g6.le (by simp; omega))
      exact W.bi (fun _ => fin _ _ _ _) (fun _ => fin _ _ _ _)
  obtain ⟨n, hn⟩ : ∃ n : Nat, r1 = n := ⟨r1.toNat, by omega⟩
  rw [hn]
  exact key n [] c1 a1 s1 (by simp; omega) (g1.le (by simp))
theorem FnCycles : PureFnCycles := by
  intro c0 c1 h0 h1
  refine W.yes (laws_FnCycles.w ?_)
  refine W.bind (laws_r8Long.w (W.di (fun h => W.ret (P := fun _ => True) trivial) (fun h => W.ret trivial))) fun b _ => ?_
  refine W.bi (fun h => W.ret rfl) (fun h => ?_)
  refine W.bind (r8Machine_w fun b hb => wf_u8 (h0.2 b hb)) ?_
  rintro ⟨a1, a2, a3, a4, b1, b2, b3, b4, i⟩ hm
  have hm : okM ⟨(a1, a2, a3, a4), (b1, b2, b3, b4), i⟩ = true := hm
  refine W.bind (cycles_w fun b hb => wf_u8 (h1.2 b hb)) fun (l : List Po) hl => ?_
  refine W.bindE (do_w _ l hm hl) (W.bindE (implTube_w ⟨(a1, a2, a3, a4), (b1, b2, b3, b4), i⟩ l) ?_)
  generalize hM : (⟨(a1, a2, a3, a4), (b1, b2, b3, b4), i⟩ : Mac) = m at *
  have E1 : a1 = m.s.1 := by rw [← hM]
  have E2 : a2 = m.s.2.1 := by rw [← hM]
  have E3 : a3 = m.s.2.2.1 := by rw [← hM]
  have E4 : a4 = m.s.2.2.2 := by rw [← hM]
  have E5 : b1 = m.t.1 := by rw [← hM]
  have E6 : b2 = m.t.2.1 := by rw [← hM]
  have E7 : b3 = m.t.2.2.1 := by rw [← hM]
  have E8 : b4 = m.t.2.2.2 := by rw [← hM]
  have E9 : i = m.i := by rw [← hM]
  rw [E1, E2, E3, E4, E5, E6, E7, E8, E9]
  have hle := doR_le l m 0
  have hall := doR_all l m 0
  have htv : tubeV m l = out [m.t] (tubeR m l) := by rw [tubeV, if_pos ⟨hm, hl⟩]
  have hb : (tubeV m l).2 = decide ((doR m l 0).2 = (l.length : Int)) := by
    have e : (tubeV m l).2 = (tubeR m l).isSome := by rw [htv]; cases tubeR m l <;> rfl
    rw [e, hall]; simp
  generalize hD : doR m l 0 = D at *
  have hT : (T11 D).2.2.2.2.2.2.2.2.2.1 = D.2 := rfl
  refine W.ne rfl (W.de (by rw [hT]; omega) (W.de (by rw [hT]; omega) (W.e (by rw [hb]; show ¬(!(decide (D.2 = (l.length : Int)) == decide (D.2 = (l.length : Int)))) = true; simp) (laws_FnCycles.w0 ?_))))
  have key : ∀ (rest pre acc : List Po) (n : Mac), l = pre ++ rest → okM n = true → D = doR n rest (pre.length : Int) → tubeR m l = (tubeR n rest).map (acc ++ ·) → acc.length = pre.length →
      W (fun k j => (laws_FnCycles.cs k j).2.1 l D.1.s.1 D.1.s.2.1 D.1.s.2.2.1 D.1.s.2.2.2 D.1.t.1 D.1.t.2.1 D.1.t.2.2.1 D.1.t.2.2.2 D.1.i D.2 (tubeV m l).1 (tubeV m l).2 n.s.1 n.s.2.1 n.s.2.2.1 n.s.2.2.2 n.t.1 n.t.2.1 n.t.2.2.1 n.t.2.2.2 n.i (pre.length : Int)) (· = true) := by
    intro rest
    induction rest with
    | nil =>
      intro pre acc n e hn hd htu hac
      have hD : D = (n, (pre.length : Int)) := hd
      have hlen : l.length = pre.length := by rw [e]; simp
      rw [hD]
      refine laws_FnCycles.w1 (W.de (by simp only; omega) (W.ne (by simp) (W.dt (by simp only; omega) (W.ret rfl))))
    | cons c rest ih =>
      intro pre acc n e hn hd htu hac
      have hlen : l.length = pre.length + (rest.length + 1) := by rw [e]; simp
      have hx : rd (0, (0, (0, 0))) l (pre.length : Int) = c := by rw [e]; exact rd_mid _ _ _
      have hpu := implPush_w n c.1 c.2.1
      rw [if_pos hn] at hpu
      rw [doR] at hd
      by_cases hc : (cyc n c).2 = true
      · rw [if_pos hc] at hd
        have hle2 := doR_le rest (cyc n c).1 ((pre.length : Int) + 1)
        rw [← hd] at hle2
        have hpo : (pushV n c.1 c.2.1).2 = true := by
          unfold cyc at hc; split at hc
          · rename_i h; exact h
          · cases hc
        have hcy : cyc n c = buildV (pushV n c.1 c.2.1).1 c.2.2.1 c.2.2.2 := by rw [cyc, if_pos hpo]
        rw [hcy] at hc
        obtain ⟨p1, p2, p3⟩ := push_eq hpo
        obtain ⟨q1, q2, q3⟩ := build_eq hc
        have hbu := implBuild_w (pushV n c.1 c.2.1).1 c.2.2.1 c.2.2.2
        rw [p2] at hbu hcy q2 q3
        rw [if_pos p3, q2] at hbu
        rw [q2] at hcy
        rw [p2] at hpu
        have hi := okM_i hn
        have hin : (builtM (pushedM n c.1 c.2.1) (turnV c.2.2.1 c.2.2.2)).i = n.i := by
          show wrap64 (wrap64 (n.i + 1500) - 1500) = n.i
          rw [w64 (i := n.i + 1500) (by omega) (by omega), w64 (by omega) (by omega)]; omega
        refine laws_FnCycles.w1 (W.dt (by omega) (W.t (by omega) (W.t (by omega) ?_)))
        rw [hx]
        refine W.bindE hpu (W.bindE hbu (W.bindE (turnOf_w q1) (W.bindE (nextP_w (okM_s hn) p1 (okM_s p3)) (W.bindE (nextP_w (p := n.t) (okM_t hn) (turn_ok q1) (okM_t q3)) ?_))))
        refine W.ne rfl (W.ne rfl (W.ne rfl (W.ne rfl (W.ne rfl (W.ne (by simp [T10, builtM, pushedM]) (W.ne (by simp [T10, builtM, pushedM]) (W.nde hin (W.bindE (implValid_w (builtM (pushedM n c.1 c.2.1) (turnV c.2.2.1 c.2.2.2))) (W.ne q3 (laws_FnCycles.w2 ?_))))))))))
        have hp : ((pre ++ [c]).length : Int) = (pre.length : Int) + 1 := by simp
        have htu' : tubeR m l = (tubeR (cyc n c).1 rest).map ((acc ++ [(cyc n c).1.t]) ++ ·) := by
          rw [htu, tubeR, if_pos (by rw [hcy]), Option.map_map]; congr 1; funext r; simp
        have next := ih (pre ++ [c]) (acc ++ [(cyc n c).1.t]) (cyc n c).1 (by simp [e]) (by rw [hcy]; exact q3) (by rw [hp]; exact hd) htu' (by simp [hac])
        rw [hp, hcy] at next
        rw [w64 (i := (pre.length : Int) + 1) (by omega) (by omega)]
        refine W.bi (fun hbt => ?_) (fun _ => next)
        have hsome : (tubeR m l).isSome = true := by rw [hall]; rw [hb] at hbt; simpa using hbt
        obtain ⟨r, hr⟩ := Option.isSome_iff_exists.1 hsome
        have htl : (tubeV m l).1 = m.t :: r := by rw [htv, hr]; rfl
        have hrl := tubeR_length l m r hr
        have hdone : D.2 = (l.length : Int) := by rw [hb] at hbt; exact of_decide_eq_true hbt
        obtain ⟨r2, hr2⟩ : ∃ r2, r = (acc ++ [(cyc n c).1.t]) ++ r2 := by
          rw [htu'] at hr
          cases ho : tubeR (cyc n c).1 rest with
          | none => rw [ho] at hr; cases hr
          | some r2 => rw [ho] at hr; cases hr; exact ⟨r2, rfl⟩
        have hrd : rd (0, (0, (0, 0))) (tubeV m l).1 ((pre.length : Int) + 1) = (cyc n c).1.t := by
          have := rd_mid (d := (0, (0, (0, 0)))) (m.t :: acc) (cyc n c).1.t r2
          rw [htl, hr2, ← hac]
          simpa using this
        have hvl : (tubeV m l).1.length = l.length + 1 := by rw [htl]; simp [hrl]
        rw [hrd, w64 (i := D.2 + 1) (by omega) (by omega)]
        refine W.nde (by rw [hvl]; omega) (W.t (by omega) (W.t (by omega) (W.ne ?_ next)))
        rw [hcy]; simp [builtM, pushedM]
      · rw [if_neg hc] at hd
        rw [hd]
        refine laws_FnCycles.w1 (W.de (by simp only; omega) (W.ne (by simp) (W.de (by simp only; omega) (W.t (by simp only; omega) (W.t (by simp only; omega) (W.t (by simp only; omega) (W.t (by simp only; omega) ?_)))))))
        simp only [hx]
        refine W.bindE hpu (W.ni (fun _ => W.ret rfl) (fun hpo => W.t (by omega) (W.t (by omega) ?_)))
        have hpo : (pushV n c.1 c.2.1).2 = true := hpo
        have hbu := implBuild_w (pushV n c.1 c.2.1).1 c.2.2.1 c.2.2.2
        rw [if_pos (pushV_ok hpo)] at hbu
        refine W.bindE hbu (W.ret ?_)
        have : (buildV (pushV n c.1 c.2.1).1 c.2.2.1 c.2.2.2).2 = false := by
          rw [cyc, if_pos hpo] at hc; simpa using hc
        show (!(buildV (pushV n c.1 c.2.1).1 c.2.2.1 c.2.2.2).2) = true
        rw [this]; rfl
  exact key l [] [] m rfl hm hD.symm (by simp) rfl
end Go.Proofs.Ytncdmooobfomeaa.Pure
