/- What the laws of rings draw: an axis with some rings left. -/
import Derived.Test.YtmgelocefebldaaXFnBestDr2b
import Derived.Test.YtmgelocefebldaaXFnBestAxT
import Derived.Test.YtmgelocefebldaaXFnBestAxS1
namespace Go.Proofs.Ytmgelocefebldaa.R
open Go.Rv Go.Rv.Ax
set_option linter.unusedVariables false
set_option linter.unusedSimpArgs false
theorem short_ok {u v : Int} (hu : -3 ≤ u ∧ u ≤ 3) (hv : -3 ≤ v ∧ v ≤ 3) : Ok (0, 0, 0, 0) [(5, u, v)] := by
  refine ⟨by decide, by simp, fun c hc => ?_, by simp [sumR], fun q hq => ?_⟩
  · simp at hc; subst hc
    exact okC_iff.2 ⟨by omega, okT_iff.2 ⟨by simp only; omega, by simp only; omega⟩⟩
  · have e : tl [((5 : Int), u, v)] = [(1, u, v), (1, u, v), (1, u, v), (1, u, v), (1, u, v)] := by rw [tl_one]; rfl
    rw [e] at hq
    simp only [scan, nxt, List.mem_cons, List.not_mem_nil, or_false] at hq
    rcases hq with rfl | rfl | rfl | rfl | rfl <;> (refine okP_iff.2 ⟨?_, ?_, ?_, ?_⟩ <;> simp only <;> omega)
abbrev BA := Int × Int × Int × Int × List Cu × Int × Int × Int × Int × Int
def baOk (r : BA) : Prop := Ok (r.1, r.2.1, r.2.2.1, r.2.2.2.1) r.2.2.2.2.1 ∧ 0 ≤ r.2.2.2.2.2.1 ∧ r.2.2.2.2.2.1 + 2 ≤ ((tl r.2.2.2.2.1).length : Int)
theorem b10Axis_w {c : List Int} (h : ∀ b ∈ c, 0 ≤ b ∧ b ≤ 255) : W (fun k _ => spec_B10Axis.f k c) baOk := by
  have rest : ∀ (x0 x1 x2 x3 x4 x5 x6 x7 : Int) (p : Po) (l : List Cu) (cc : List Int) (a s m : Int), Ok p l → 3 ≤ ((tl l).length : Int) → Sr cc a m → m ≤ 1000 → W (fun k m => (spec_B10Axis.cs k m) x0 x1 x2 x3 x4 x5 x6 x7 p.1 p.2.1 p.2.2.1 p.2.2.2 l ((tl l).length : Int) cc a s) baOk := by
    intro x0 x1 x2 x3 x4 x5 x6 x7 p l cc a s m hok h3 hs hm
    have hlen := hok.len
    have hpl := poses_length p l
    refine spec_B10Axis.w0 ?_
    rw [w64 (i := ((tl l).length : Int) - 2) (by omega) (by omega)]
    refine W.bind (pick_w hs (by omega)) ?_
    rintro ⟨b, c1, a1, s1⟩ ⟨hb, g1⟩
    dsimp only at hb g1 ⊢
    refine W.bindE (specPoses_w hok) (W.t (by omega) (W.t (by omega) ?_))
    have hq := okP_iff.1 (by rw [rd_ofNat (by omega) (by omega)]; exact hok.poses _ (List.getElem_mem _) : okP (rd (0, (0, (0, 0))) (poses p l) b) = true)
    generalize rd (0, (0, (0, 0))) (poses p l) b = q at *
    refine W.bind (pick_w g1 (by omega)) ?_
    rintro ⟨r1, c2, a2, s2⟩ ⟨q1, g2⟩
    refine W.bind (pick_w g2 (by omega)) ?_
    rintro ⟨r2, c3, a3, s3⟩ ⟨q2, g3⟩
    refine W.bind (pick_w g3 (by omega)) ?_
    rintro ⟨r3, c4, a4, s4⟩ ⟨q3, g4⟩
    refine W.bind (pick_w g4 (by omega)) ?_
    rintro ⟨r4, c5, a5, s5⟩ ⟨q4, g5⟩
    refine W.bindN (fun k => specPose_eq k (_, _, _, _)) ?_
    exact W.ni (fun _ => W.ret ⟨hok, hb.1, by dsimp only; omega⟩) (fun _ => W.ret ⟨hok, hb.1, by dsimp only; omega⟩)
  refine spec_B10Axis.w (W.bind (from_w h) fun t1 g1 => W.bind (drawOk_w g1 (by omega)) ?_)
  rintro ⟨p1, p2, p3, p4, l, c2, a2, s2⟩ ⟨hok, g2⟩
  dsimp only at hok g2 ⊢
  refine W.bindE (specRings_w (p := (p1, p2, p3, p4)) hok) (W.di (fun hlt => ?_) (fun hge => rest 0 0 0 0 0 0 0 0 (p1, p2, p3, p4) l c2 a2 s2 _ hok (by omega) g2 (by omega)))
  refine W.bind (pick_w g2 (by omega)) ?_
  rintro ⟨r1, c3, a3, s3⟩ ⟨q1, g3⟩
  refine W.bind (pick_w g3 (by omega)) ?_
  rintro ⟨r2, c4, a4, s4⟩ ⟨q2, g4⟩
  dsimp only at q1 q2 g3 g4 ⊢
  rw [w64 (i := r1 - 3) (by omega) (by omega), w64 (i := r2 - 3) (by omega) (by omega)]
  have hk := short_ok (u := r1 - 3) (v := r2 - 3) (by omega) (by omega)
  have hl : (tl [((5 : Int), r1 - 3, r2 - 3)]).length = 5 := by rw [tl_one]; simp
  have := rest 0 0 0 0 0 0 0 0 (0, 0, 0, 0) [(5, r1 - 3, r2 - 3)] c4 a4 s4 _ hk (by omega) g4 (by omega)
  rw [hl] at this
  exact this
end Go.Proofs.Ytmgelocefebldaa.R
