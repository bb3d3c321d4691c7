/- The reversed axis: what the program's function answers. -/
import Derived.Test.YtkmnllcccgnliaaXFnSplitAxO
namespace Go.Proofs.Ytkmnllcccgnliaa.R
open Go.Rv Go.Rv.Ax
set_option linter.unusedVariables false
set_option linter.unusedSimpArgs false
/-- the pose of the reversed axis at the end of the ring behind q -/
def back (q : Po) : Po := (q.1 + q.2.2.1, q.2.1 + q.2.2.2, -q.2.2.1, -q.2.2.2)
def fin0 (p : Po) : Po := (p.1, p.2.1, -p.2.2.1, -p.2.2.2)
theorem nxt_back (e : Po) (t : Cu) : nxt (back (nxt e t)) t = back e := by
  simp only [nxt, back, Prod.mk.injEq]; omega
theorem nxt_fin (p : Po) : nxt (back p) (1, 0, 0) = fin0 p := by
  simp only [nxt, back, fin0, Prod.mk.injEq]; omega
theorem snoc_induction {α : Type} {Q : List α → Prop} (h0 : Q []) (h1 : ∀ a t, Q a → Q (a ++ [t])) (l : List α) : Q l := by
  have : ∀ n (l : List α), l.length = n → Q l := by
    intro n
    induction n with
    | zero => intro l h; rw [List.length_eq_zero_iff.1 h]; exact h0
    | succ n ih =>
      intro l h
      rcases List.eq_nil_or_concat l with rfl | ⟨a, t, rfl⟩
      · simp at h
      · rw [List.concat_eq_append] at h ⊢
        exact h1 a t (ih a (by simpa using h))
  exact this _ l rfl
theorem scan_back (p : Po) (a : List Cu) : (p :: scan p a).reverse.map back ++ [fin0 p] = back (endP p a) :: scan (back (endP p a)) (a.reverse ++ [(1, 0, 0)]) := by
  refine snoc_induction (Q := fun a => (p :: scan p a).reverse.map back ++ [fin0 p] = back (endP p a) :: scan (back (endP p a)) (a.reverse ++ [(1, 0, 0)])) ?_ (fun a t ih => ?_) a
  · simp [scan, endP, nxt_fin]
  · rw [scan_snoc, endP_snoc, List.reverse_append, List.reverse_singleton, List.singleton_append, List.cons_append]
    simp only [scan]
    rw [nxt_back, ← ih, ← List.cons_append, List.reverse_append]
    simp
/-- what both answer for a valid axis -/
def revR (p : Po) (ts : List Cu) : List Cu := ts.dropLast.reverse ++ [(1, 0, 0)]
def revS (p : Po) (ts : List Cu) : Po := back (endP p ts.dropLast)
def revOk (p : Po) (l : List Cu) : AxR := if Ok (revS p (tl l)) (merge (revR p (tl l))) then ((revS p (tl l)).1, (revS p (tl l)).2.1, (revS p (tl l)).2.2.1, (revS p (tl l)).2.2.2, merge (revR p (tl l)), true) else bad6
def revV (p : Po) (l : List Cu) : AxR := if Ok p l then revOk p l else bad6
theorem revR_one (p : Po) (ts : List Cu) (h : ∀ c ∈ ts, c.1 = 1) : ∀ c ∈ revR p ts, c.1 = 1 := by
  intro c hc
  simp only [revR, List.mem_append, List.mem_reverse, List.mem_singleton] at hc
  rcases hc with hc | rfl
  · exact h c (List.dropLast_subset _ hc)
  · rfl
theorem revR_length (p : Po) (ts : List Cu) (h : 1 ≤ ts.length) : (revR p ts).length = ts.length := by simp [revR]; omega
theorem rev_ofV (p : Po) (l : List Cu) (h : Ok p l) : ofV ((poses p l).dropLast.reverse.map back ++ [fin0 p]) = revOk p l := by
  have hlen := h.len
  have hd : (poses p l).dropLast = p :: scan p (tl l).dropLast := by
    rcases List.eq_nil_or_concat (tl l) with e | ⟨a, t, e⟩
    · rw [e] at hlen; simp at hlen
    · rw [List.concat_eq_append] at e
      rw [poses, e, scan_snoc, ← List.cons_append, List.dropLast_concat, List.dropLast_concat]
  have hone := revR_one p _ (un_tl l)
  have hrl := revR_length p (tl l) hlen.1
  have hsl := scan_length (revS p (tl l)) (revR p (tl l))
  rw [hd, scan_back]
  show ofV (revS p (tl l) :: scan (revS p (tl l)) (revR p (tl l))) = revOk p l
  have ht := turns_scan (revR p (tl l)) (revS p (tl l)) hone
  have hp : poses (revS p (tl l)) (merge (revR p (tl l))) = revS p (tl l) :: scan (revS p (tl l)) (revR p (tl l)) := by
    rw [poses, tl_merge _ fun c hc => by rw [hone c hc]; omega, tl_unit _ hone]
  simp only [ofV]
  rw [ht]
  unfold revOk
  by_cases ho : Ok (revS p (tl l)) (merge (revR p (tl l)))
  · rw [if_pos ho, if_pos]
    have hall := ho.poses
    rw [hp] at hall
    exact ⟨by omega, hall _ (by simp), fun q hq => hall q (by simp [hq]), ho, hp⟩
  · rw [if_neg ho, if_neg]
    rintro ⟨_, _, _, h4, _⟩; exact ho h4
/-! ### the program's -/
theorem implRev_w (p : Po) (l : List Cu) : W (fun k _ => impl_ReverseAxis.f k p.1 p.2.1 p.2.2.1 p.2.2.2 l) (· = revV p l) := by
  refine impl_ReverseAxis.w (W.bindE (implPoses_w p l) ?_)
  by_cases h : Ok p l
  case neg =>
    rw [posesV_no h, revV, if_neg h]
    exact W.nt rfl (W.ret rfl)
  rw [posesV_ok h, revV, if_pos h]
  have hlen := h.len
  have hpl := poses_length p l
  refine W.ne rfl ?_
  dsimp only
  have chain : ∀ (ts : List Cu) (p : Po) (A : List Po) (q r : Po) (Z : List Po), p :: scan p ts = A ++ q :: r :: Z → r.1 = q.1 + q.2.2.1 ∧ r.2.1 = q.2.1 + q.2.2.2 := by
    intro ts
    induction ts with
    | nil => intro p A q r Z e; have := congrArg List.length e; simp [scan] at this; omega
    | cons t ts ih =>
      intro p A q r Z e
      cases A with
      | nil =>
        simp only [scan, List.nil_append, List.cons.injEq] at e
        obtain ⟨rfl, rfl, _⟩ := e
        exact ⟨rfl, rfl⟩
      | cons x A =>
        simp only [scan, List.cons_append, List.cons.injEq] at e
        exact ih _ A q r Z e.2
  have key : ∀ (A : List Po) (r : Po) (Z : List Po), poses p l = A ++ r :: Z → W (fun k m => (impl_ReverseAxis.cs k m) 0 0 0 0 (poses p l) ((r :: Z).dropLast.reverse.map back) ((poses p l).length : Int) ((poses p l).length : Int) (Z.length : Int)) (· = revOk p l) := by
    intro A
    refine snoc_induction (Q := fun A => ∀ (r : Po) (Z : List Po), poses p l = A ++ r :: Z → W (fun k m => (impl_ReverseAxis.cs k m) 0 0 0 0 (poses p l) ((r :: Z).dropLast.reverse.map back) ((poses p l).length : Int) ((poses p l).length : Int) (Z.length : Int)) (· = revOk p l)) ?_ ?_ A
    · intro r Z e
      have e : poses p l = r :: Z := by simpa using e
      have hr : r = p := by simp only [poses, List.cons.injEq] at e; exact e.1.symm
      subst hr
      have hL : (poses r l).length = Z.length + 1 := by rw [e]; simp
      have hx : rd (0, (0, (0, 0))) (poses r l) 0 = r := by rw [e]; rfl
      have hrok := h.1
      rw [okP_iff] at hrok
      -- the last one of what was built is that of the first pose
      obtain ⟨Y, hY⟩ : ∃ Y, (r :: Z).dropLast.reverse.map back = Y ++ [back r] := by
        cases Z with
        | nil => simp at hL; omega
        | cons z Z => exact ⟨((z :: Z).dropLast.reverse).map back, by simp⟩
      have hYl : Y.length + 1 = Z.length := by
        have := congrArg List.length hY; simp at this; omega
      have hy : rd (0, (0, (0, 0))) ((r :: Z).dropLast.reverse.map back) (Y.length : Int) = back r := by rw [hY]; exact rd_mid _ _ _
      refine impl_ReverseAxis.w0 (W.dt (by omega) ?_)
      rw [w64 (i := ((poses r l).length : Int) - 1) (by omega) (by omega), w64 (i := ((poses r l).length : Int) - 1 - (Z.length : Int)) (by omega) (by omega), show ((poses r l).length : Int) - 1 - (Z.length : Int) = 0 by omega]
      refine W.t (by omega) (W.t (by omega) (W.t (by omega) (W.t (by omega) ?_)))
      rw [w64 (i := (Z.length : Int) + 1) (by omega) (by omega), w64 (i := (Z.length : Int) - 1) (by omega) (by omega), show (Z.length : Int) - 1 = (Y.length : Int) by omega, hx, hy]
      have hl2 : ((r :: Z).dropLast.reverse.map back).length = Z.length := by simp
      refine W.de (by omega) (W.t (by omega) (W.t (by omega) (W.t (by omega) (W.t (by omega) (W.t (by omega) ?_)))))
      refine impl_ReverseAxis.w0 (W.de (by omega) ?_)
      have ho : (r :: Z).dropLast.reverse.map back ++ [(r.1, (r.2.1, ((back r).2.2.1, (back r).2.2.2)))] = (poses r l).dropLast.reverse.map back ++ [fin0 r] := by rw [e]; rfl
      rw [ho]
      refine W.bindE (implAxisOf_w _ (by simp; omega)) (W.ret ?_)
      rw [rev_ofV r l h]
    · intro A q ih r Z e
      have e : poses p l = A ++ q :: r :: Z := by rw [e]; simp
      have hL : (poses p l).length = A.length + (Z.length + 2) := by rw [e]; simp
      have hq : rd (0, (0, (0, 0))) (poses p l) (A.length : Int) = q := by rw [e]; exact rd_mid _ _ _
      have hr : rd (0, (0, (0, 0))) (poses p l) ((A.length : Int) + 1) = r := by
        have := rd_mid (d := ((0 : Int), ((0 : Int), ((0 : Int), (0 : Int))))) (A ++ [q]) r Z
        rw [e]; simpa using this
      obtain ⟨c1, c2⟩ := chain _ _ A q r Z e
      have hqok := h.poses q (by rw [e]; simp)
      have hrok := h.poses r (by rw [e]; simp)
      rw [okP_iff] at hqok hrok
      refine impl_ReverseAxis.w0 (W.dt (by omega) ?_)
      rw [w64 (i := ((poses p l).length : Int) - 1) (by omega) (by omega), w64 (i := ((poses p l).length : Int) - 1 - (Z.length : Int)) (by omega) (by omega), show ((poses p l).length : Int) - 1 - (Z.length : Int) = (A.length : Int) + 1 by omega,
        w64 (i := ((poses p l).length : Int) - 2) (by omega) (by omega), w64 (i := ((poses p l).length : Int) - 2 - (Z.length : Int)) (by omega) (by omega), show ((poses p l).length : Int) - 2 - (Z.length : Int) = (A.length : Int) by omega,
        w64 (i := (Z.length : Int) + 1) (by omega) (by omega), hq, hr, w64 (i := q.1 - r.1) (by omega) (by omega), w64 (i := q.2.1 - r.2.1) (by omega) (by omega)]
      have hl2 : ((r :: Z).dropLast.reverse.map back).length = Z.length := by simp
      refine W.t (by omega) (W.t (by omega) (W.t (by omega) (W.t (by omega) ?_)))
      refine W.dt (by omega) (W.t (by omega) (W.t (by omega) (W.t (by omega) (W.t (by omega) (W.t (by omega) ?_)))))
      have hb : (r.1, (r.2.1, (q.1 - r.1, q.2.1 - r.2.1))) = back q := by
        simp only [back, Prod.mk.injEq]; omega
      rw [hb]
      have := ih q (r :: Z) e
      have ed : (q :: r :: Z).dropLast.reverse.map back = (r :: Z).dropLast.reverse.map back ++ [back q] := by simp
      rw [ed] at this
      simpa using this
  obtain ⟨A, t, e⟩ : ∃ A t, poses p l = A ++ [t] := by
    rcases List.eq_nil_or_concat (poses p l) with e | ⟨a, t, e⟩
    · rw [e] at hpl; simp at hpl
    · exact ⟨a, t, by rw [e, List.concat_eq_append]⟩
  have := key A t [] e
  simpa using this
theorem revV_length (p : Po) (l : List Cu) : (revV p l).2.2.2.2.1.length ≤ 1048576 := by
  unfold revV
  split
  · rename_i h
    have h1 := h.len
    have h2 := merge_length (revR p (tl l))
    have h3 := revR_length p (tl l) h1.1
    unfold revOk
    split
    · show (merge (revR p (tl l))).length ≤ _; omega
    · exact Nat.zero_le _
  · exact Nat.zero_le _
end Go.Proofs.Ytkmnllcccgnliaa.R
