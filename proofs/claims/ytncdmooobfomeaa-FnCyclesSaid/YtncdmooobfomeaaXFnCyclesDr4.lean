/- The machine that the reference draws is valid. -/
import Derived.Test.YtncdmooobfomeaaXFnCyclesDr1
import Derived.Test.YtncdmooobfomeaaXFnCyclesMac
namespace Go.Proofs.Ytncdmooobfomeaa.R
open Go.Rv Go.Rv.Ax
open RowKit (wrap64)
set_option linter.unusedVariables false
set_option linter.unusedSimpArgs false
theorem macIs9_w (a b c d e f g h i : Int) : W (fun k _ => spec_l04Is.f k a b c d e f g h i) (· = okM ⟨(a, b, c, d), (e, f, g, h), i⟩) := macIs_w ⟨(a, b, c, d), (e, f, g, h), i⟩
def ok9 (r : Int × Int × Int × Int × Int × Int × Int × Int × Int) : Prop := okM ⟨(r.1, r.2.1, r.2.2.1, r.2.2.2.1), (r.2.2.2.2.1, r.2.2.2.2.2.1, r.2.2.2.2.2.2.1, r.2.2.2.2.2.2.2.1), r.2.2.2.2.2.2.2.2⟩ = true
theorem def9 : ok9 (0, 0, 0, 0, 0, 0, 0, 0, 600) := by unfold ok9; decide +kernel
theorem drawMac_w {c : List Int} {a s m : Int} (h : Sr c a m) (hm : m ≤ 800000) : W (fun k _ => spec_l04DrawOk.f k c a s) (fun r => ok9 (r.1, r.2.1, r.2.2.1, r.2.2.2.1, r.2.2.2.2.1, r.2.2.2.2.2.1, r.2.2.2.2.2.2.1, r.2.2.2.2.2.2.2.1, r.2.2.2.2.2.2.2.2.1)) := by
  refine spec_l04DrawOk.w (W.bind (drawPose_w h (by omega)) ?_)
  rintro ⟨p1, p2, p3, p4, c1, a1, s1⟩ ⟨-, g1⟩
  refine W.bind (pick_w g1 (by omega)) ?_
  rintro ⟨r2, c2, a2, s2⟩ ⟨-, g2⟩
  refine W.bind (one_w g2 (by omega)) ?_
  rintro ⟨r3, c3, a3, s3⟩ g3
  dsimp only at g1 g2 g3 ⊢
  have key : ∀ i z1 z2 z3 z4 z5 z6 z7 z8 z9 z10 z11 z12 z13, W (fun k j => (spec_l04DrawOk.cs k j) c3 a3 s3 z1 z2 z3 z4 z5 z6 z7 z8 z9 z10 z11 z12 z13 p1 p2 p3 p4 i) (fun r => ok9 (r.1, r.2.1, r.2.2.1, r.2.2.2.1, r.2.2.2.2.1, r.2.2.2.2.2.1, r.2.2.2.2.2.2.1, r.2.2.2.2.2.2.2.1, r.2.2.2.2.2.2.2.2.1)) := by
    intro i z1 z2 z3 z4 z5 z6 z7 z8 z9 z10 z11 z12 z13
    refine spec_l04DrawOk.w0 (W.bind (pick_w g3 (by omega)) ?_)
    rintro ⟨r4, c4, a4, s4⟩ ⟨-, g4⟩
    refine W.bind (pick_w g4 (by omega)) ?_
    rintro ⟨r5, c5, a5, s5⟩ ⟨-, g5⟩
    refine W.bind (pick_w g5 (by omega)) ?_
    rintro ⟨r6, c6, a6, s6⟩ ⟨-, g6⟩
    refine W.bind (pick_w g6 (by omega)) ?_
    rintro ⟨r7, c7, a7, s7⟩ ⟨-, g7⟩
    refine W.bind (one_w g7 (by omega)) ?_
    rintro ⟨r8, c8, a8, s8⟩ g8
    dsimp only at g8 ⊢
    refine W.bi (fun hb => W.bind (among_w g8 (by omega) (by simp)) ?_) (fun hb => ?_)
    · rintro ⟨r9, c9, a9, s9⟩ -
      exact W.bindE (macIs9_w _ _ _ _ _ _ _ _ _) (W.ni (fun _ => W.ret def9) (fun ho => W.ret ho))
    · exact W.bindE (macIs9_w _ _ _ _ _ _ _ _ _) (W.ni (fun _ => W.ret def9) (fun ho => W.ret ho))
  exact W.bi (fun _ => key _ _ _ _ _ _ _ _ _ _ _ _ _ _) (fun _ => key _ _ _ _ _ _ _ _ _ _ _ _ _ _)
theorem r8Machine_w {c : List Int} (h : ∀ b ∈ c, 0 ≤ b ∧ b ≤ 255) : W (fun k _ => spec_R8Machine.f k c) ok9 := by
  refine spec_R8Machine.w (W.bind (from_w h) fun t ht => W.bind (drawMac_w ht (by omega)) fun r hr => W.ret hr)
end Go.Proofs.Ytncdmooobfomeaa.R
