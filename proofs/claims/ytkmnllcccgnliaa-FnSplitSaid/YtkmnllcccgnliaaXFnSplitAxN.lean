/- The normal axis: merging a valid axis gives a valid one with the same poses, and no neighbours in it turn alike. -/
import Derived.Test.YtkmnllcccgnliaaXFnSplitAxR1
namespace Go.Proofs.Ytkmnllcccgnliaa.R
open Go.Rv Go.Rv.Ax
set_option linter.unusedVariables false
set_option linter.unusedSimpArgs false
theorem fold_same (u : Cu) (hu : u.1 = 1) : ∀ (n : Nat) (i : List Cu) (d : Cu), d.2 = u.2 → (List.replicate n u).foldl mstep (i ++ [d]) = i ++ [(d.1 + n, d.2)]
  | 0, i, d, _ => by simp
  | n + 1, i, d, h => by
    rw [List.replicate_succ, List.foldl_cons, mstep_snoc, if_pos h, fold_same u hu n i (d.1 + u.1, d.2) h, hu]
    simp only [List.append_cancel_left_eq, List.cons.injEq, Prod.mk.injEq, and_true]; omega
theorem fold_block (c : Cu) (hc : 1 ≤ c.1) (acc : List Cu) : (List.replicate c.1.toNat (un c)).foldl mstep acc = mstep acc c := by
  obtain ⟨n, hn⟩ : ∃ n : Nat, c.1.toNat = n + 1 := ⟨c.1.toNat - 1, by omega⟩
  have hs : (1 : Int) + n = c.1 := by omega
  rw [hn]
  rcases List.eq_nil_or_concat acc with rfl | ⟨i, d, rfl⟩
  · rw [List.replicate_succ, List.foldl_cons, mstep_nil, mstep_nil, show [un c] = [] ++ [un c] from rfl, fold_same (un c) rfl n [] (un c) rfl]
    simp only [un, List.nil_append, hs]
  · rw [List.concat_eq_append, mstep_snoc]
    by_cases h : d.2 = c.2
    · rw [if_pos h, fold_same (un c) rfl (n + 1) i d h]
      have : d.1 + ((n + 1 : Nat) : Int) = d.1 + c.1 := by omega
      rw [this]
    · rw [if_neg h, List.replicate_succ, List.foldl_cons, mstep_snoc, if_neg (show ¬d.2 = (un c).2 from h), fold_same (un c) rfl n (i ++ [d]) (un c) rfl]
      simp only [un, hs]
theorem merge_tl (l : List Cu) (h : ∀ c ∈ l, 1 ≤ c.1) : merge (tl l) = merge l := by
  have : ∀ (l acc : List Cu), (∀ c ∈ l, 1 ≤ c.1) → (tl l).foldl mstep acc = l.foldl mstep acc := by
    intro l
    induction l with
    | nil => intro acc _; rfl
    | cons c l ih =>
      intro acc h
      rw [tl_cons, List.foldl_append, fold_block c (h c (by simp)), ih _ fun d hd => h d (by simp [hd])]; rfl
  exact this l [] h
theorem Ok_merge {p : Po} {l : List Cu} (h : Ok p l) : Ok p (merge l) := by
  have hs := sumR_merge l h.nn
  have h8 := h.2.1
  have hlen := h.len
  have hm1 : 1 ≤ (merge l).length := by
    rcases Nat.eq_zero_or_pos (merge l).length with e | e
    · have := tl_merge l h.nn
      rw [List.length_eq_zero_iff.1 e] at this
      rw [← this] at hlen; simp [tl] at hlen
    · exact e
  refine ⟨h.1, ⟨hm1, Nat.le_trans (merge_length l) h8.2⟩, fun c hc => ?_, by rw [hs]; exact h.2.2.2.1, by rw [tl_merge l h.nn]; exact h.2.2.2.2⟩
  refine merge_all (fun c => okC c = true) (fun c d hc hd e => ?_) l h.2.2.1 c hc
  rw [okC_iff] at hc hd ⊢
  exact ⟨by simp only; omega, hc.2⟩
theorem merge_poses {p : Po} {l : List Cu} (h : Ok p l) : poses p (merge l) = poses p l := by rw [poses, poses, tl_merge l h.nn]
theorem ofV_poses {p : Po} {l : List Cu} (h : Ok p l) : ofV (poses p l) = (p.1, p.2.1, p.2.2.1, p.2.2.2, merge l, true) := by
  have hlen := h.len
  have hsl := scan_length p (tl l)
  have hok := h.poses
  have ht := turns_scan (tl l) p (un_tl l)
  have hm : merge (tl l) = merge l := merge_tl l fun c hc => (h.c hc).1
  show ofV (p :: scan p (tl l)) = _
  have hq : ∀ q ∈ scan p (tl l), okP q = true := fun q hq => hok q (by simp [poses, hq])
  rw [ofV_yes, ht, hm]
  refine ⟨by omega, hok p (by simp [poses]), hq, (of_iff p _ (by omega) hq).2 ?_⟩
  rw [ht, hm]
  exact ⟨Ok_merge h, merge_poses h⟩
/-- no neighbours turn alike -/
def nb : List Cu → Prop
  | [] => True
  | [_] => True
  | a :: b :: l => a.2 ≠ b.2 ∧ nb (b :: l)
theorem nb_last : ∀ (i : List Cu) (d d' : Cu), d.2 = d'.2 → nb (i ++ [d]) → nb (i ++ [d'])
  | [], _, _, _, _ => trivial
  | [a], d, d', e, h => ⟨e ▸ h.1, trivial⟩
  | a :: b :: i, d, d', e, h => ⟨h.1, nb_last (b :: i) d d' e h.2⟩
theorem nb_snoc : ∀ (i : List Cu) (d c : Cu), d.2 ≠ c.2 → nb (i ++ [d]) → nb (i ++ [d] ++ [c])
  | [], _, _, h, _ => ⟨h, trivial⟩
  | [a], d, c, h, hn => ⟨hn.1, h, trivial⟩
  | a :: b :: i, d, c, h, hn => ⟨hn.1, nb_snoc (b :: i) d c h hn.2⟩
theorem nb_mid : ∀ (pre : List Cu) (a b : Cu) (post : List Cu), nb (pre ++ a :: b :: post) → a.2 ≠ b.2
  | [], _, _, _, h => h.1
  | [x], a, b, post, h => nb_mid [] a b post h.2
  | x :: y :: pre, a, b, post, h => nb_mid (y :: pre) a b post h.2
theorem nb_mstep (acc : List Cu) (c : Cu) (h : nb acc) : nb (mstep acc c) := by
  rcases List.eq_nil_or_concat acc with rfl | ⟨i, d, rfl⟩
  · exact trivial
  · rw [List.concat_eq_append] at *
    rw [mstep_snoc]
    split
    · exact nb_last i d _ rfl h
    · rename_i e; exact nb_snoc i d c e h
theorem nb_merge (l : List Cu) : nb (merge l) := by
  have : ∀ (l acc : List Cu), nb acc → nb (l.foldl mstep acc) := by
    intro l
    induction l with
    | nil => intro acc h; exact h
    | cons c l ih => intro acc h; exact ih _ (nb_mstep acc c h)
  exact this l [] trivial
end Go.Proofs.Ytkmnllcccgnliaa.R
