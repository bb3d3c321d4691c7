/- The axes that the reference draws are valid. -/
import Derived.Test.YtmgelocefebldaaXFnBestSrcA
import Derived.Test.YtmgelocefebldaaXFnBestSrc
import Derived.Test.YtmgelocefebldaaXFnBestDr1
import Derived.Test.YtmgelocefebldaaXFnBestAxW
namespace Go.Proofs.Ytmgelocefebldaa.R
open Go.Rv Go.Rv.Ax
set_option linter.unusedVariables false
set_option linter.unusedSimpArgs false
/-- curves of drawn axes -/
def sml (c : Cu) : Prop := (1 ≤ c.1 ∧ c.1 ≤ 5) ∧ (-12 ≤ c.2.1 ∧ c.2.1 ≤ 12) ∧ (-2 ≤ c.2.2 ∧ c.2.2 ≤ 2)
theorem scan_small : ∀ (l : List Cu) (p : Po) (n : Int), (∀ c ∈ l, (-12 ≤ c.2.1 ∧ c.2.1 ≤ 12) ∧ (-2 ≤ c.2.2 ∧ c.2.2 ≤ 2)) → 0 ≤ n → n + l.length ≤ 30 → (-12 * n ≤ p.2.2.1 ∧ p.2.2.1 ≤ 12 * n) → (-12 * n ≤ p.2.2.2 ∧ p.2.2.2 ≤ 12 * n) → (-360 * n ≤ p.1 ∧ p.1 ≤ 360 * n) → (-360 * n ≤ p.2.1 ∧ p.2.1 ≤ 360 * n) → ∀ q ∈ scan p l, okP q = true
  | [], p, n, _, _, _, _, _, _, _, q, hq => by cases hq
  | c :: l, p, n, hc, h0, hl, h1, h2, h3, h4, q, hq => by
    have hcc := hc c (by simp)
    simp only [List.length_cons] at hl
    have key : (-12 * (n + 1) ≤ (nxt p c).2.2.1 ∧ (nxt p c).2.2.1 ≤ 12 * (n + 1)) ∧ (-12 * (n + 1) ≤ (nxt p c).2.2.2 ∧ (nxt p c).2.2.2 ≤ 12 * (n + 1)) ∧ (-360 * (n + 1) ≤ (nxt p c).1 ∧ (nxt p c).1 ≤ 360 * (n + 1)) ∧ (-360 * (n + 1) ≤ (nxt p c).2.1 ∧ (nxt p c).2.1 ≤ 360 * (n + 1)) := by
      simp only [nxt]; omega
    rcases List.mem_cons.1 hq with rfl | hq
    · rw [okP_iff]; omega
    · exact scan_small l (nxt p c) (n + 1) (fun d hd => hc d (by simp [hd])) (by omega) (by omega) key.1 key.2.1 key.2.2.1 key.2.2.2 q hq
theorem small_ok {l : List Cu} (h1 : 1 ≤ l.length ∧ l.length ≤ 8) (hs : ∀ c ∈ l, sml c) (hr : sumR l ≤ 30) : Ok (0, 0, 0, 0) l := by
  have hnn : ∀ c ∈ l, 0 ≤ c.1 := fun c hc => by have := (hs c hc).1; omega
  have htl := tl_length hnn
  refine ⟨by decide, h1, fun c hc => ?_, by omega, scan_small (tl l) (0, 0, 0, 0) 0 (fun c hc => ?_) (by omega) (by omega) (by simp) (by simp) (by simp) (by simp)⟩
  · rw [okC_iff, okT_iff]
    have := hs c hc
    unfold sml at this
    omega
  · simp only [tl, List.mem_flatMap, List.mem_replicate] at hc
    obtain ⟨d, hd, _, rfl⟩ := hc
    exact ⟨(hs d hd).2.1, (hs d hd).2.2⟩
theorem drawOkEnd_w {c : List Int} {a s m : Int} (h : Sr c a m) (p : Po) (l : List Cu) (h1 : 1 ≤ l.length ∧ l.length ≤ 8) (hs : ∀ c ∈ l, sml c) (hr : sumR l ≤ 30) :
    W (fun k m => (spec_l02Is.f k p.1 p.2.1 p.2.2.1 p.2.2.2 l).bind fun t9 => (if (!t9) = true then some (0, 0, 0, 0, l, c, a, s) else some (p.1, p.2.1, p.2.2.1, p.2.2.2, l, c, a, s))) (fun r => Ok (r.1, r.2.1, r.2.2.1, r.2.2.2.1) r.2.2.2.2.1 ∧ Sr r.2.2.2.2.2.1 r.2.2.2.2.2.2.1 m) := by
  refine W.bindE (specIs_w p l) (W.ni (fun hb => W.ret ⟨small_ok h1 hs hr, h⟩) (fun hb => W.ret ⟨of_decide_eq_true hb, h⟩))
theorem drawFill_w (p : Po) {c : List Int} {a s m : Int} (h : Sr c a m) : ∀ (n : Nat) (l : List Cu), l.length + n = 8 → 1 ≤ l.length → (∀ c ∈ l, sml c) → sumR l + n ≤ 30 →
    W (fun k m => (spec_l02DrawOk.cs k m).2 c a s 0 0 0 0 p.1 p.2.1 p.2.2.1 p.2.2.2 l) (fun r => Ok (r.1, r.2.1, r.2.2.1, r.2.2.2.1) r.2.2.2.2.1 ∧ Sr r.2.2.2.2.2.1 r.2.2.2.2.2.2.1 m) := by
  intro n
  induction n with
  | zero =>
    intro l h1 h2 h3 h4
    exact spec_l02DrawOk.w1 (W.de (by omega) (drawOkEnd_w h p l (by omega) h3 (by omega)))
  | succ n ih =>
    intro l h1 h2 h3 h4
    refine spec_l02DrawOk.w1 (W.dt (by omega) (W.e (by omega) (W.t (by simp; omega) ?_)))
    have h5 : 0 ≤ (l.length : Int).tmod 3 := Int.tmod_nonneg _ (by omega)
    have h6 : (l.length : Int).tmod 3 < 3 := Int.tmod_lt_of_pos _ (by omega)
    refine ih _ (by simp; omega) (by simp) (fun d hd => ?_) (by rw [sumR_app, sumR_cons, sumR_nil]; omega)
    rcases List.mem_append.1 hd with hd | hd
    · exact h3 d hd
    · simp only [List.mem_singleton] at hd; subst hd; exact ⟨by simp, ⟨by simp only; omega, by simp only; omega⟩, by simp⟩
theorem drawLoop_w (p : Po) (m : Int) (hm : m ≤ 800000) : ∀ (n : Nat) (l : List Cu) (c : List Int) (a s : Int), l.length + n ≤ 5 → 1 ≤ l.length + n → (∀ c ∈ l, sml c) → sumR l ≤ 5 * l.length → Sr c a (m + 20 * l.length) →
    W (fun k m => (spec_l02DrawOk.cs k m).1 c a s 0 0 0 0 p.1 p.2.1 p.2.2.1 p.2.2.2 l (n : Int)) (fun r => Ok (r.1, r.2.1, r.2.2.1, r.2.2.2.1) r.2.2.2.2.1 ∧ Sr r.2.2.2.2.2.1 r.2.2.2.2.2.2.1 (m + 200)) := by
  intro n
  induction n with
  | zero =>
    intro l c a s h1 h2 h3 h4 h
    refine spec_l02DrawOk.w0 (W.de (by simp) (W.bind (one_w h (by omega)) fun t ht => W.bi (fun _ => ?_) (fun _ => ?_)))
    · exact drawFill_w p (ht.le (by omega)) (8 - l.length) l (by omega) (by omega) h3 (by omega)
    · exact drawOkEnd_w (ht.le (by omega)) p l (by omega) h3 (by omega)
  | succ n ih =>
    intro l c a s h1 h2 h3 h4 h
    have hlen : (l.length : Int) ≤ 5 := by omega
    refine spec_l02DrawOk.w0 (W.dt (by omega) (W.bind (pick_w h (by omega)) fun t3 g3 => W.bind (pick_w g3.2 (by omega)) fun t4 g4 => W.bind (pick_w g4.2 (by omega)) fun t5 g5 => W.bind (one_w g5.2 (by omega)) fun t6 g6 => ?_))
    have b3 := g3.1; have b4 := g4.1; have b5 := g5.1
    rw [w64 (i := 1 + t3.1) (by omega) (by omega), w64 (i := t5.1 - 2) (by omega) (by omega), w64 (i := t4.1 - 2) (by omega) (by omega), w64 (i := ((n + 1 : Nat) : Int) - 1) (by omega) (by omega), show ((n + 1 : Nat) : Int) - 1 = (n : Int) by omega]
    have step : ∀ (b : Int) (c' : List Int) (a' s' : Int), -12 ≤ b ∧ b ≤ 12 → Sr c' a' (m + 20 * l.length + 10) → W (fun k m => if l.length + 1 < 366503875925 then (spec_l02DrawOk.cs k m).1 c' a' s' 0 0 0 0 p.1 p.2.1 p.2.2.1 p.2.2.2 (l ++ [(1 + t3.1, (b, t5.1 - 2))]) (n : Int) else none) (fun r => Ok (r.1, r.2.1, r.2.2.1, r.2.2.2.1) r.2.2.2.2.1 ∧ Sr r.2.2.2.2.2.1 r.2.2.2.2.2.2.1 (m + 200)) := by
      intro b c' a' s' hb hS
      refine W.t (by omega) (ih _ _ _ _ (by simp; omega) (by simp; omega) (fun d hd => ?_) (by rw [sumR_app, sumR_cons, sumR_nil]; simp only [List.length_append, List.length_singleton]; omega) (hS.le (by simp; omega)))
      rcases List.mem_append.1 hd with hd | hd
      · exact h3 d hd
      · simp only [List.mem_singleton] at hd; subst hd; exact ⟨by simp only; omega, hb, by simp only; omega⟩
    refine W.bi (fun _ => W.bind (among_w g6 (by omega) (by simp)) fun t7 g7 => step _ _ _ _ ?_ (g7.2.le (by omega))) (fun _ => step _ _ _ _ (by omega) (g6.le (by omega)))
    have := g7.1
    simp at this
    omega
theorem drawOk_w {c : List Int} {a s m : Int} (h : Sr c a m) (hm : m ≤ 700000) : W (fun k _ => spec_l02DrawOk.f k c a s) (fun r => Ok (r.1, r.2.1, r.2.2.1, r.2.2.2.1) r.2.2.2.2.1 ∧ Sr r.2.2.2.2.2.1 r.2.2.2.2.2.2.1 (m + 300)) := by
  refine spec_l02DrawOk.w (W.bind (drawPose_w h (by omega)) fun t1 g1 => W.bind (pick_w g1.2 (by omega)) fun t2 g2 => ?_)
  have b2 := g2.1
  rw [w64 (by omega) (by omega), show 1 + t2.1 = ((1 + t2.1).toNat : Int) by omega]
  have := drawLoop_w (t1.1, t1.2.1, t1.2.2.1, t1.2.2.2.1) (m + 22) (by omega) (1 + t2.1).toNat [] t2.2.1 t2.2.2.1 t2.2.2.2 (by simp; omega) (by simp; omega) (by simp) (by simp [sumR]) (g2.2.le (by simp; omega))
  exact this.mono fun v hv => ⟨hv.1, hv.2.le (by omega)⟩
end Go.Proofs.Ytmgelocefebldaa.R
