/- What the laws of rings draw: an axis with some rings left, a tube. -/
import Derived.Test.YtmgelocefebldaaXFnOffsetsDr2b
import Derived.Test.YtmgelocefebldaaXFnOffsetsRngS
import Derived.Test.YtmgelocefebldaaXFnOffsetsAxS1
namespace Go.Proofs.Ytmgelocefebldaa.R
open Go.Rv Go.Rv.Ax
set_option linter.unusedVariables false
set_option linter.unusedSimpArgs false
theorem short_ok {u v : Int} (hu : -3 ≤ u ∧ u ≤ 3) (hv : -3 ≤ v ∧ v ≤ 3) : Ok (0, 0, 0, 0) [(5, u, v)] := by
  refine ⟨by decide, by simp, fun c hc => ?_, by simp [sumR], fun q hq => ?_⟩
  · simp at hc; subst hc
    exact okC_iff.2 ⟨by omega, okT_iff.2 ⟨by simp only; omega, by simp only; omega⟩⟩
  · have e : tl [((5 : Int), u, v)] = [(1, u, v), (1, u, v), (1, u, v), (1, u, v), (1, u, v)] := by rw [tl_one]; rfl
    rw [e] at hq
    simp only [scan, nxt, List.mem_cons, List.not_mem_nil, or_false] at hq
    rcases hq with rfl | rfl | rfl | rfl | rfl <;> (refine okP_iff.2 ⟨?_, ?_, ?_, ?_⟩ <;> simp only <;> omega)
abbrev BA := Int × Int × Int × Int × List Cu × Int × Int × Int × Int × Int
def baOk (r : BA) : Prop := Ok (r.1, r.2.1, r.2.2.1, r.2.2.2.1) r.2.2.2.2.1 ∧ 0 ≤ r.2.2.2.2.2.1 ∧ r.2.2.2.2.2.1 + 2 ≤ ((tl r.2.2.2.2.1).length : Int)
theorem b10Axis_w {c : List Int} (h : ∀ b ∈ c, 0 ≤ b ∧ b ≤ 255) : W (fun k _ => spec_B10Axis.f k c) baOk := by
  have rest : ∀ (x0 x1 x2 x3 x4 x5 x6 x7 : Int) (p : Po) (l : List Cu) (cc : List Int) (a s m : Int), Ok p l → 3 ≤ ((tl l).length : Int) → Sr cc a m → m ≤ 1000 → W (fun k m => (spec_B10Axis.cs k m) x0 x1 x2 x3 x4 x5 x6 x7 p.1 p.2.1 p.2.2.1 p.2.2.2 l ((tl l).length : Int) cc a s) baOk := by
    intro x0 x1 x2 x3 x4 x5 x6 x7 p l cc a s m hok h3 hs hm
    have hlen := hok.len
    have hpl := poses_length p l
    refine spec_B10Axis.w0 ?_
    rw [w64 (i := ((tl l).length : Int) - 2) (by omega) (by omega)]
    refine W.bind (pick_w hs (by omega)) ?_
    rintro ⟨b, c1, a1, s1⟩ ⟨hb, g1⟩
    dsimp only at hb g1 ⊢
    refine W.bindE (specPoses_w hok) (W.t (by omega) (W.t (by omega) ?_))
    have hq := okP_iff.1 (by rw [rd_ofNat (by omega) (by omega)]; exact hok.poses _ (List.getElem_mem _) : okP (rd (0, (0, (0, 0))) (poses p l) b) = true)
    generalize rd (0, (0, (0, 0))) (poses p l) b = q at *
    refine W.bind (pick_w g1 (by omega)) ?_
    rintro ⟨r1, c2, a2, s2⟩ ⟨q1, g2⟩
    refine W.bind (pick_w g2 (by omega)) ?_
    rintro ⟨r2, c3, a3, s3⟩ ⟨q2, g3⟩
    refine W.bind (pick_w g3 (by omega)) ?_
    rintro ⟨r3, c4, a4, s4⟩ ⟨q3, g4⟩
    refine W.bind (pick_w g4 (by omega)) ?_
    rintro ⟨r4, c5, a5, s5⟩ ⟨q4, g5⟩
    refine W.bindN (fun k => specPose_eq k (_, _, _, _)) ?_
    exact W.ni (fun _ => W.ret ⟨hok, hb.1, by dsimp only; omega⟩) (fun _ => W.ret ⟨hok, hb.1, by dsimp only; omega⟩)
  refine spec_B10Axis.w (W.bind (from_w h) fun t1 g1 => W.bind (drawOk_w g1 (by omega)) ?_)
  rintro ⟨p1, p2, p3, p4, l, c2, a2, s2⟩ ⟨hok, g2⟩
  dsimp only at hok g2 ⊢
  refine W.bindE (specRings_w (p := (p1, p2, p3, p4)) hok) (W.di (fun hlt => ?_) (fun hge => rest 0 0 0 0 0 0 0 0 (p1, p2, p3, p4) l c2 a2 s2 _ hok (by omega) g2 (by omega)))
  refine W.bind (pick_w g2 (by omega)) ?_
  rintro ⟨r1, c3, a3, s3⟩ ⟨q1, g3⟩
  refine W.bind (pick_w g3 (by omega)) ?_
  rintro ⟨r2, c4, a4, s4⟩ ⟨q2, g4⟩
  dsimp only at q1 q2 g3 g4 ⊢
  rw [w64 (i := r1 - 3) (by omega) (by omega), w64 (i := r2 - 3) (by omega) (by omega)]
  have hk := short_ok (u := r1 - 3) (v := r2 - 3) (by omega) (by omega)
  have hl : (tl [((5 : Int), r1 - 3, r2 - 3)]).length = 5 := by rw [tl_one]; simp
  have := rest 0 0 0 0 0 0 0 0 (0, 0, 0, 0) [(5, r1 - 3, r2 - 3)] c4 a4 s4 _ hk (by omega) g4 (by omega)
  rw [hl] at this
  exact this
theorem specNext_w (a : Int) (ha : 0 ≤ a ∧ a ≤ 15) : W (fun k _ => spec_l03Next.f k a) (fun l => 0 < l.length ∧ ∀ y ∈ l, 0 ≤ y ∧ y ≤ 15) := by
  refine spec_l03Next.w ?_
  have st : ∀ d ∈ ([2, 5, 8, 11, 14] : List Int), 0 ≤ d ∧ d ≤ 14 := by simp
  have key : ∀ (ps pre out : List Int), ([2, 5, 8, 11, 14] : List Int) = pre ++ ps → out.length ≤ pre.length → (0 < pre.length → 0 < out.length) → (∀ y ∈ out, 0 ≤ y ∧ y ≤ 15) → W (fun k m => (spec_l03Next.cs k m) a out [2, 5, 8, 11, 14] (pre.length : Int)) (fun l => 0 < l.length ∧ ∀ y ∈ l, 0 ≤ y ∧ y ≤ 15) := by
    intro ps
    induction ps with
    | nil =>
      intro pre out e ho hp hm
      have hl := congrArg List.length e
      simp at hl
      exact spec_l03Next.w0 (W.de (by simp only [List.length_cons, List.length_nil]; omega) (W.ret ⟨hp (by omega), hm⟩))
    | cons p ps ih =>
      intro pre out e ho hp hm
      have hl := congrArg List.length e
      simp at hl
      have hx : rd 0 ([2, 5, 8, 11, 14] : List Int) (pre.length : Int) = p := by rw [e]; exact rd_mid _ _ _
      have hpp := st p (by rw [e]; simp)
      refine spec_l03Next.w0 (W.dt (by simp only [List.length_cons, List.length_nil]; omega) (W.t (by omega) (W.t (by simp only [List.length_cons, List.length_nil]; omega) (W.e (by omega) ?_))))
      rw [hx, w64 (i := a + p) (by omega) (by omega), w64 (i := (pre.length : Int) + 1) (by omega) (by omega)]
      have hmod : 0 ≤ (a + p).tmod 16 ∧ (a + p).tmod 16 ≤ 15 := by
        rw [Int.tmod_eq_emod_of_nonneg (by omega)]; omega
      refine W.bind (put_w out _ (by omega)) fun r hr => ?_
      have hmem : (a + p).tmod 16 ∈ r := (hr.2 _).2 (.inl rfl)
      have := ih (pre ++ [p]) r (by rw [e]; simp) (by simp; omega) (fun _ => List.length_pos_of_mem hmem) (fun y hy => by
        rcases (hr.2 y).1 hy with rfl | hy
        · exact hmod
        · exact hm y hy)
      simpa using this
  exact key _ [] [] rfl (by simp) (by simp) (by simp)
theorem b10Tube_w {c : List Int} (h : ∀ b ∈ c, 0 ≤ b ∧ b ≤ 255) : W (fun k _ => spec_B10Tube.f k c) (fun t => t.length ≤ 100) := by
  have draw : ∀ (n : Nat) (t : List Ri) (c : List Int) (a s m key : Int), t.length + n ≤ 100 → Sr c a m → m + 10 * n ≤ 1000000 → 0 ≤ key ∧ key ≤ 15 → W (fun k m => (spec_l03DrawOk.cs k m) c a s (n : Int) key t) (fun r => r.1.length ≤ 100) := by
    intro n
    induction n with
    | zero =>
      intro t c a s m key hl g hm hk
      exact spec_l03DrawOk.w0 (W.de (by omega) (W.ret (by simp only; omega)))
    | succ n ih =>
      intro t c a s m key hl g hm hk
      refine spec_l03DrawOk.w0 (W.dt (by omega) (W.bind (specNext_w key hk) fun L hL => W.bind (among_w g (by omega) hL.1) ?_))
      rintro ⟨r1, c1, a1, s1⟩ ⟨q1, g1⟩
      refine W.bind (pick_w g1 (by omega)) ?_
      rintro ⟨r2, c2, a2, s2⟩ ⟨q2, g2⟩
      dsimp only at q1 q2 g1 g2 ⊢
      refine W.bindN (t := if 1 < r2 then 1 else r2) (fun k => by unfold spec_l00Min.f; by_cases h : 1 < r2 <;> simp [h]) (W.t (by omega) ?_)
      rw [w64 (i := ((n + 1 : Nat) : Int) - 1) (by omega) (by omega), show ((n + 1 : Nat) : Int) - 1 = (n : Int) by omega]
      exact ih _ c2 a2 s2 _ r1 (by simp; omega) g2 (by omega) (hL.2 r1 q1)
  refine spec_B10Tube.w (W.bind (from_w h) fun t1 g1 => W.bind (pick_w g1 (by omega)) ?_)
  rintro ⟨r1, c1, a1, s1⟩ ⟨q1, g2⟩
  refine W.bind (pick_w g2 (by omega)) ?_
  rintro ⟨r2, c2, a2, s2⟩ ⟨q2, g3⟩
  dsimp only at q1 q2 g2 g3 ⊢
  rw [w64 (i := 1 + r1) (by omega) (by omega)]
  obtain ⟨n, hn⟩ : ∃ n : Nat, 1 + r1 = (n : Int) := ⟨(1 + r1).toNat, by omega⟩
  rw [hn]
  exact W.bind (spec_l03DrawOk.w (draw n [] c2 a2 s2 _ r2 (by simp; omega) g3 (by omega) (by omega))) fun r hr => W.ret hr
end Go.Proofs.Ytmgelocefebldaa.R
