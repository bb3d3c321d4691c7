/- The ground: what the reference draws is valid, and what the program's functions say of a valid one. -/
import Derived.Test.YtlkmjldhhoopcaaXFnExactClassAtAxB
import Derived.Test.YtlkmjldhhoopcaaXFnExactClassAtSrc
import Derived.Test.YtlkmjldhhoopcaaRvM3
namespace Go.Proofs.Ytlkmjldhhoopcaa.R
open Go.Rv Go.Rv.Ax
set_option linter.unusedVariables false
set_option linter.unusedSimpArgs false
abbrev Ho := Int × List Int
def dn (l : List Int) : Prop := l.Pairwise fun a b => b ≤ a
def hOk (n : Nat) (h : Ho) : Prop := (0 ≤ h.1 ∧ h.1 ≤ 60) ∧ h.2.length = n ∧ (∀ x ∈ h.2, -100000 ≤ x ∧ x ≤ 100000) ∧ dn h.2
def gOk (D : List Int) (H : List Ho) : Prop := (1 ≤ D.length ∧ D.length ≤ 4) ∧ (∀ x ∈ D, 1 ≤ x ∧ x ≤ 3000) ∧ (1 ≤ H.length ∧ H.length ≤ 6) ∧ (∀ h ∈ H, hOk D.length h) ∧ H.Pairwise fun a b => a.1 < b.1
theorem dn_snoc {l : List Int} {x : Int} (h : dn l) (hx : ∀ y ∈ l, x ≤ y) : dn (l ++ [x]) := by
  unfold dn; rw [List.pairwise_append]
  exact ⟨h, by simp, fun a ha b hb => by simp at hb; subst hb; exact hx a ha⟩
/-- the tops of what is drawn -/
def tOk (l : List Int) : Prop := ∀ x ∈ l, -40000 ≤ x ∧ x ≤ 8000
theorem drawHole_w {c : List Int} {a s m : Int} (h : Sr c a m) (hm : m ≤ 900000) (ring : Int) (n : Nat) (hn : n ≤ 4) (hr : 0 ≤ ring ∧ ring ≤ 60) :
    W (fun k _ => spec_l06DrawHole.f k c a s ring (n : Int)) (fun r => r.1 = ring ∧ (hOk n (ring, r.2.1) ∧ tOk r.2.1) ∧ Sr r.2.2.1 r.2.2.2.1 (m + 100)) := by
  refine spec_l06DrawHole.w (W.bind (pick_w h (by omega)) ?_)
  rintro ⟨r1, c1, a1, s1⟩ ⟨q1, g1⟩
  dsimp only at q1 g1 ⊢
  rw [w64 (i := 100 * r1) (by omega) (by omega), w64 (i := 4000 + 100 * r1) (by omega) (by omega)]
  have key : ∀ (d : Nat) (l : List Int) (top : Int) (c : List Int) (a s : Int), l.length + d = n → dn l → (∀ x ∈ l, top ≤ x ∧ x ≤ 8000) → (8000 - 8000 * ((l.length : Int) + 1) ≤ top ∧ top ≤ 8000) → Sr c a (m + 2 + 10 * l.length) →
      W (fun k j => (spec_l06DrawHole.cs k j) c a s (n : Int) 0 ring l top (l.length : Int)) (fun r => r.1 = ring ∧ (hOk n (ring, r.2.1) ∧ tOk r.2.1) ∧ Sr r.2.2.1 r.2.2.2.1 (m + 100)) := by
    intro d
    induction d with
    | zero =>
      intro l top c a s hl hd hx ht g
      refine spec_l06DrawHole.w0 (W.de (by omega) (W.ret ⟨rfl, ⟨⟨hr, by omega, fun x hxm => ?_, hd⟩, fun x hxm => ?_⟩, g.le (by omega)⟩)) <;> (have := hx x hxm; have := ht.1; omega)
    | succ d ih =>
      intro l top c a s hl hd hx ht g
      refine spec_l06DrawHole.w0 (W.dt (by omega) (W.t (by omega) (W.bind (pick_w g (by omega)) ?_)))
      rintro ⟨r2, c2, a2, s2⟩ ⟨q2, g2⟩
      refine W.bind (one_w g2 (by omega)) ?_
      rintro ⟨r3, c3, a3, s3⟩ g3
      dsimp only at q2 g2 g3 ⊢
      have hls : ((l ++ [top]).length : Int) = (l.length : Int) + 1 := by simp
      have hdd : dn (l ++ [top]) := dn_snoc hd fun y hy => (hx y hy).1
      have step : ∀ (top' : Int) (c4 : List Int) (a4 s4 : Int), top - 8000 ≤ top' ∧ top' ≤ top → Sr c4 a4 (m + 2 + 10 * l.length + 10) → W (fun k j => (spec_l06DrawHole.cs k j) c4 a4 s4 (n : Int) 0 ring (l ++ [top]) top' ((l.length : Int) + 1)) (fun r => r.1 = ring ∧ (hOk n (ring, r.2.1) ∧ tOk r.2.1) ∧ Sr r.2.2.1 r.2.2.2.1 (m + 100)) := by
        intro top' c4 a4 s4 ht' g4
        have := ih (l ++ [top]) top' c4 a4 s4 (by simp; omega) hdd (fun x hxm => by
          rcases List.mem_append.1 hxm with hxm | hxm
          · have := hx x hxm; omega
          · simp at hxm; omega) (by rw [hls]; omega) (g4.le (by rw [hls]; omega))
        rw [hls] at this; exact this
      rw [w64 (i := (l.length : Int) + 1) (by omega) (by omega), w64 (i := 100 * r2) (by omega) (by omega), w64 (i := top - 100 * r2) (by omega) (by omega)]
      refine W.bi (fun _ => W.bind (pick_w g3 (by omega)) ?_) (fun _ => step _ _ _ _ (by omega) (g3.le (by omega)))
      rintro ⟨r4, c4, a4, s4⟩ ⟨q4, g4⟩
      dsimp only at q4 g4 ⊢
      rw [w64 (i := top - 100 * r2 - r4) (by omega) (by omega)]
      exact step _ _ _ _ (by omega) (g4.le (by omega))
  exact key n [] _ c1 a1 s1 (by simp) List.Pairwise.nil (by simp) (by simp; omega) (g1.le (by simp))
theorem drawGnd_w {c : List Int} {a s m : Int} (h : Sr c a m) (hm : m ≤ 100000) : W (fun k _ => spec_l06DrawOk.f k c a s) (fun r => gOk r.1 r.2.1 ∧ ∀ h ∈ r.2.1, tOk h.2) := by
  refine spec_l06DrawOk.w (W.bind (pick_w h (by omega)) ?_)
  rintro ⟨r1, c1, a1, s1⟩ ⟨q1, g1⟩
  dsimp only at q1 g1 ⊢
  rw [w64 (i := 1 + r1) (by omega) (by omega)]
  have holes : ∀ (D : List Int), (1 ≤ D.length ∧ D.length ≤ 4) → (∀ x ∈ D, 1 ≤ x ∧ x ≤ 3000) → ∀ (d : Nat) (H : List Ho) (ring : Int) (c : List Int) (a s : Int), 1 ≤ H.length + d → H.length + d ≤ 4 → (∀ h ∈ H, (hOk D.length h ∧ tOk h.2) ∧ h.1 < ring) → H.Pairwise (fun a b => a.1 < b.1) → (0 ≤ ring ∧ ring ≤ 3 + 12 * H.length) → Sr c a (m + 100 + 200 * H.length) →
      W (fun k j => (spec_l06DrawOk.cs k j).2 c a s D H ring (d : Int)) (fun r => gOk r.1 r.2.1 ∧ ∀ h ∈ r.2.1, tOk h.2) := by
    intro D hD hDx d
    induction d with
    | zero =>
      intro H ring c a s h1 h4 hH hP hr g
      exact spec_l06DrawOk.w1 (W.de (by omega) (W.ret ⟨⟨hD, hDx, by simp only; omega, fun h hh => (hH h hh).1.1, hP⟩, fun h hh => (hH h hh).1.2⟩))
    | succ d ih =>
      intro H ring c a s h1 h4 hH hP hr g
      refine spec_l06DrawOk.w1 (W.dt (by omega) (W.bind (drawHole_w g (by omega) ring D.length hD.2 (by omega)) ?_))
      rintro ⟨rg, tp, c2, a2, s2⟩ ⟨q1, q2, g2⟩
      dsimp only at q1 q2 g2 ⊢
      subst q1
      refine W.t (by omega) (W.bind (pick_w g2 (by omega)) ?_)
      rintro ⟨r3, c3, a3, s3⟩ ⟨q3, g3⟩
      dsimp only at q3 g3 ⊢
      have hls : ((H ++ [(rg, tp)]).length : Int) = (H.length : Int) + 1 := by simp
      rw [w64 (i := 1 + r3) (by omega) (by omega), w64 (i := rg + (1 + r3)) (by omega) (by omega), w64 (i := ((d + 1 : Nat) : Int) - 1) (by omega) (by omega), show ((d + 1 : Nat) : Int) - 1 = (d : Int) by omega]
      refine ih (H ++ [(rg, tp)]) _ c3 a3 s3 (by simp; omega) (by simp; omega) (fun h hh => ?_) ?_ (by rw [hls]; omega) (g3.le (by rw [hls]; omega))
      · rcases List.mem_append.1 hh with hh | hh
        · have := hH h hh; exact ⟨this.1, by omega⟩
        · simp at hh; subst hh; exact ⟨q2, by simp only; omega⟩
      · rw [List.pairwise_append]
        exact ⟨hP, by simp, fun x hx y hy => by simp at hy; subst hy; exact (hH x hx).2⟩
  have dens : ∀ (d : Nat) (D : List Int) (c : List Int) (a s : Int), 1 ≤ D.length + d → D.length + d ≤ 4 → (∀ x ∈ D, 1 ≤ x ∧ x ≤ 3000) → Sr c a (m + 2 + 2 * D.length) →
      W (fun k j => (spec_l06DrawOk.cs k j).1 c a s D ([] : List Ho) (d : Int)) (fun r => gOk r.1 r.2.1 ∧ ∀ h ∈ r.2.1, tOk h.2) := by
    intro d
    induction d with
    | zero =>
      intro D c a s h1 h4 hD g
      refine spec_l06DrawOk.w0 (W.de (by omega) (W.bind (pick_w g (by omega)) ?_))
      rintro ⟨r2, c2, a2, s2⟩ ⟨q2, g2⟩
      refine W.bind (pick_w g2 (by omega)) ?_
      rintro ⟨r3, c3, a3, s3⟩ ⟨q3, g3⟩
      dsimp only at q2 g2 q3 g3 ⊢
      rw [w64 (i := 1 + r3) (by omega) (by omega)]
      obtain ⟨e, he⟩ : ∃ e : Nat, 1 + r3 = (e : Int) := ⟨(1 + r3).toNat, by omega⟩
      rw [he]
      exact holes D (by omega) hD e [] r2 c3 a3 s3 (by simp; omega) (by simp; omega) (by simp) List.Pairwise.nil (by simp; omega) (g3.le (by simp; omega))
    | succ d ih =>
      intro D c a s h1 h4 hD g
      refine spec_l06DrawOk.w0 (W.dt (by omega) (W.bind (pick_w g (by omega)) ?_))
      rintro ⟨r2, c2, a2, s2⟩ ⟨q2, g2⟩
      dsimp only at q2 g2 ⊢
      refine W.t (by omega) ?_
      rw [w64 (i := 1500 + r2) (by omega) (by omega), w64 (i := ((d + 1 : Nat) : Int) - 1) (by omega) (by omega), show ((d + 1 : Nat) : Int) - 1 = (d : Int) by omega]
      refine ih (D ++ [1500 + r2]) c2 a2 s2 (by simp; omega) (by simp; omega) (fun x hx => ?_) (g2.le (by simp; omega))
      rcases List.mem_append.1 hx with hx | hx
      · exact hD x hx
      · simp at hx; omega
  obtain ⟨e, he⟩ : ∃ e : Nat, 1 + r1 = (e : Int) := ⟨(1 + r1).toNat, by omega⟩
  rw [he]
  exact dens e [] c1 a1 s1 (by simp; omega) (by simp; omega) (by simp) (g1.le (by simp))
theorem r8GroundT_w {c : List Int} (h : ∀ b ∈ c, 0 ≤ b ∧ b ≤ 255) : W (fun k _ => spec_R8Ground.f k c) (fun r => gOk r.1 r.2 ∧ ∀ h ∈ r.2, tOk h.2) :=
  spec_R8Ground.w (W.bind (from_w h) fun t ht => W.bind (drawGnd_w ht (by omega)) fun r hr => W.ret hr)
theorem r8Ground_w {c : List Int} (h : ∀ b ∈ c, 0 ≤ b ∧ b ≤ 255) : W (fun k _ => spec_R8Ground.f k c) (fun r => gOk r.1 r.2) := (r8GroundT_w h).mono fun _ h => h.1
end Go.Proofs.Ytlkmjldhhoopcaa.R
