/- The ground: what lies between which tops. -/
import Derived.Test.YtlkmjldhhoopcaaXFnExactTopsAtGnd4
namespace Go.Proofs.Ytlkmjldhhoopcaa.R
open Go.Rv Go.Rv.Ax
set_option linter.unusedVariables false
set_option linter.unusedSimpArgs false
def bef (r : Int) (b : List Int) (h : Ho) : List Int := if h.1 ≤ r then h.2 else b
def beh (r : Int) (b : List Int) (h : Ho) : List Int := if r ≤ h.1 then h.2 else b
theorem bef_skip (r : Int) : ∀ (R : List Ho) (b : List Int), (∀ g ∈ R, ¬g.1 ≤ r) → R.foldl (bef r) b = b
  | [], _, _ => rfl
  | g :: R, b, h => by rw [List.foldl_cons, bef, if_neg (h g (by simp))]; exact bef_skip r R b fun x hx => h x (by simp [hx])
theorem beh_skip (r : Int) : ∀ (R : List Ho) (b : List Int), (∀ g ∈ R, ¬r ≤ g.1) → R.foldl (beh r) b = b
  | [], _, _ => rfl
  | g :: R, b, h => by rw [List.foldl_cons, beh, if_neg (h g (by simp))]; exact beh_skip r R b fun x hx => h x (by simp [hx])
theorem bef_at {r : Int} {q R : List Ho} {p : Ho} (hp : p.1 ≤ r) (hR : ∀ g ∈ R, ¬g.1 ≤ r) (b : List Int) : (q ++ p :: R).foldl (bef r) b = p.2 := by
  rw [List.foldl_append, List.foldl_cons, bef_skip r R _ hR, bef, if_pos hp]
theorem beh_at {r : Int} {A B : List Ho} {h : Ho} (hh : r ≤ h.1) (hA : ∀ g ∈ A, g.1 < r) (b : List Int) : (A ++ h :: B).reverse.foldl (beh r) b = h.2 := by
  rw [List.reverse_append, List.reverse_cons, List.append_assoc, List.foldl_append, List.singleton_append, List.foldl_cons, beh_skip r A.reverse _ (fun g hg => by have := hA g (List.mem_reverse.1 hg); omega), beh, if_pos hh]
/-- a top lies between those of two lists -/
def btw (x y T : List Int) : Prop := ∀ k : Nat, k < T.length → (rd 0 x (k : Int) ≤ rd 0 T (k : Int) ∧ rd 0 T (k : Int) ≤ rd 0 y (k : Int)) ∨ (rd 0 y (k : Int) ≤ rd 0 T (k : Int) ∧ rd 0 T (k : Int) ≤ rd 0 x (k : Int))
theorem btw_l (x y : List Int) : btw x y x := fun k _ => by
  rcases Int.le_total (rd 0 x (k : Int)) (rd 0 y (k : Int)) with h | h
  · exact .inl ⟨Int.le_refl _, h⟩
  · exact .inr ⟨h, Int.le_refl _⟩
theorem btw_r (x y : List Int) : btw x y y := fun k _ => by
  rcases Int.le_total (rd 0 x (k : Int)) (rd 0 y (k : Int)) with h | h
  · exact .inl ⟨h, Int.le_refl _⟩
  · exact .inr ⟨Int.le_refl _, h⟩
structure TopsP (D : List Int) (H : List Ho) (r : Int) (T : List Int) : Prop where
  len : T.length = D.length
  dn : dn T
  ok : ∀ lo hi : Int, (∀ h ∈ H, ∀ x ∈ h.2, lo ≤ x ∧ x ≤ hi) → ∀ x ∈ T, lo ≤ x ∧ x ≤ hi
  btw : ∀ b0 e0, btw (H.foldl (bef r) b0) (H.reverse.foldl (beh r) e0) T
theorem split_at (H : List Ho) (r : Int) : (∀ h ∈ H, h.1 < r) ∨ ∃ A h B, H = A ++ h :: B ∧ r ≤ h.1 ∧ ∀ g ∈ A, g.1 < r := by
  induction H with
  | nil => exact .inl (by simp)
  | cons x H ih =>
    by_cases hx : r ≤ x.1
    · exact .inr ⟨[], x, H, rfl, hx, by simp⟩
    · rcases ih with h | ⟨A, h, B, e, h1, h2⟩
      · exact .inl fun g hg => by
          rcases List.mem_cons.1 hg with rfl | hg
          · omega
          · exact h g hg
      · exact .inr ⟨x :: A, h, B, by rw [e]; rfl, h1, fun g hg => by
          rcases List.mem_cons.1 hg with rfl | hg
          · omega
          · exact h2 g hg⟩
theorem topsP {D : List Int} {H : List Ho} (g : gOk D H) (r : Int) : TopsP D H r (topsGo none H r) := by
  obtain ⟨g1, g2, g3, g4, g5⟩ := g
  have own : ∀ h ∈ H, h.2.length = D.length ∧ dn h.2 ∧ ∀ lo hi : Int, (∀ h ∈ H, ∀ x ∈ h.2, lo ≤ x ∧ x ≤ hi) → ∀ x ∈ h.2, lo ≤ x ∧ x ≤ hi := fun h hh => ⟨(g4 h hh).2.1, (g4 h hh).2.2.2, fun lo hi hb => hb h hh⟩
  rcases split_at H r with hall | ⟨A, h, B, e, hrh, hA⟩
  · obtain ⟨q, p, e⟩ : ∃ q p, H = q ++ [p] := by
      rcases List.eq_nil_or_concat H with e | ⟨q, p, e⟩
      · rw [e] at g3; simp at g3
      · exact ⟨q, p, by rw [e, List.concat_eq_append]⟩
    have ht : topsGo none H r = p.2 := by
      rw [e, topsGo_skip r p [] q none (by rw [← e]; exact hall)]; rfl
    obtain ⟨o1, o2, o3⟩ := own p (by rw [e]; simp)
    rw [ht]
    refine ⟨o1, o2, o3, fun b0 e0 => ?_⟩
    have hb : H.foldl (bef r) b0 = p.2 := by rw [e]; exact bef_at (by have := hall p (by rw [e]; simp); omega) (by simp) b0
    rw [hb]; exact btw_l _ _
  · obtain ⟨o1, o2, o3⟩ := own h (by rw [e]; simp)
    have he : ∀ e0, H.reverse.foldl (beh r) e0 = h.2 := fun e0 => by rw [e]; exact beh_at hrh hA e0
    have same : topsGo none H r = h.2 → TopsP D H r (topsGo none H r) := fun ht => by
      rw [ht]; exact ⟨o1, o2, o3, fun b0 e0 => by rw [he]; exact btw_r _ _⟩
    rcases List.eq_nil_or_concat A with e' | ⟨q, p, e'⟩
    · subst e'
      exact same (by rw [e]; exact topsGo_none hrh)
    · rw [List.concat_eq_append] at e'
      subst e'
      have e' : H = q ++ p :: h :: B := by rw [e]; simp
      have ht : topsGo none H r = if h.1 = r then h.2 else List.zipWith (fun a b => mid a b (r - p.1) (h.1 - p.1)) p.2 h.2 := by
        rw [e', topsGo_skip r p (h :: B) q none hA, topsGo_some hrh]
      by_cases hr' : h.1 = r
      · exact same (by rw [ht, if_pos hr'])
      · rw [ht, if_neg hr']
        obtain ⟨p1, p2, p3⟩ := own p (by rw [e']; simp)
        have hpr := hA p (by simp)
        have hb : ∀ b0, H.foldl (bef r) b0 = p.2 := fun b0 => by
          rw [e']
          refine bef_at (by omega) (fun x hx => ?_) b0
          rw [e', List.pairwise_append, List.pairwise_cons, List.pairwise_cons] at g5
          rcases List.mem_cons.1 hx with rfl | hx
          · omega
          · have := g5.2.1.2.1 x hx; omega
        have hz : (List.zipWith (fun a b => mid a b (r - p.1) (h.1 - p.1)) p.2 h.2).length = D.length := by simp [p1, o1]
        have hat : ∀ k : Nat, k < D.length → rd 0 (List.zipWith (fun a b => mid a b (r - p.1) (h.1 - p.1)) p.2 h.2) (k : Int) = mid (rd 0 p.2 (k : Int)) (rd 0 h.2 (k : Int)) (r - p.1) (h.1 - p.1) := fun k hk => by
          rw [rd_at (by omega), rd_at (by omega), rd_at (by omega), List.getElem_zipWith]
        refine ⟨hz, ?_, fun lo hi hbd x hx => ?_, fun b0 e0 => ?_⟩
        · unfold dn
          rw [List.pairwise_iff_getElem]
          intro i j hi hj hij
          have a1 := hat i (by omega)
          have a2 := hat j (by omega)
          rw [rd_at hi] at a1
          rw [rd_at hj] at a2
          rw [a1, a2]
          exact mid_mono (dn_at p2 hij (by omega)) (dn_at o2 hij (by omega)) (by omega) (by omega)
        · obtain ⟨k, hk, rfl⟩ := List.mem_iff_getElem.1 hx
          have a1 := hat k (by omega)
          rw [rd_at hk] at a1
          rw [a1]
          refine mid_within ?_ ?_ (by omega) (by omega)
          · rw [rd_at (by omega)]; exact p3 lo hi hbd _ (List.getElem_mem _)
          · rw [rd_at (by omega)]; exact o3 lo hi hbd _ (List.getElem_mem _)
        · rw [hb, he]
          intro k hk
          rw [hat k (by omega)]
          rcases Int.le_total (rd 0 p.2 (k : Int)) (rd 0 h.2 (k : Int)) with hl | hl
          · exact .inl (mid_within ⟨Int.le_refl _, hl⟩ ⟨hl, Int.le_refl _⟩ (by omega) (by omega))
          · exact .inr (mid_within ⟨hl, Int.le_refl _⟩ ⟨Int.le_refl _, hl⟩ (by omega) (by omega))
theorem tops_at {D : List Int} {H A B : List Ho} {h : Ho} (g : gOk D H) (e : H = A ++ h :: B) : topsGo none H h.1 = h.2 := by
  have g5 := g.2.2.2.2
  rw [e, List.pairwise_append] at g5
  have hA : ∀ x ∈ A, x.1 < h.1 := fun x hx => g5.2.2 x hx h (by simp)
  rcases List.eq_nil_or_concat A with e' | ⟨q, p, e'⟩
  · subst e'; rw [e]; exact topsGo_none (Int.le_refl _)
  · rw [List.concat_eq_append] at e'
    subst e'
    rw [show H = q ++ p :: h :: B by rw [e]; simp, topsGo_skip _ p (h :: B) q none hA, topsGo_some (Int.le_refl _), if_pos rfl]
end Go.Proofs.Ytlkmjldhhoopcaa.R
