/- Which grounds are valid: what the program and the reference answer, for every ground. -/
import Derived.Test.YtlkmjldhhoopcaaXFnExactTopsAtGnd2
namespace Go.Proofs.Ytlkmjldhhoopcaa.R
open Go.Rv Go.Rv.Ax
set_option linter.unusedVariables false
set_option linter.unusedSimpArgs false
theorem l00InG_eq (k : Nat) (x lo hi : Int) : spec_l00In.f k x lo hi = some (inR lo hi x) := by
  unfold spec_l00In.f inR
  by_cases h : lo ≤ x <;> simp [h]
theorem pw_snoc {α : Type} {R : α → α → Prop} (tr : ∀ a b c, R a b → R b c → R a c) {l : List α} {p x : α} (h : (l ++ [p]).Pairwise R) (hx : R p x) : (l ++ [p] ++ [x]).Pairwise R := by
  refine List.pairwise_append.2 ⟨h, List.pairwise_singleton _ _, fun a ha b hb => ?_⟩
  rw [List.mem_singleton] at hb
  subst hb
  rcases List.mem_append.1 ha with ha | ha
  · exact tr _ _ _ ((List.pairwise_append.1 h).2.2 a ha p (by simp)) hx
  · rw [List.mem_singleton] at ha; subst ha; exact hx
theorem pw_no {α : Type} {R : α → α → Prop} {A B : List α} {p x : α} (h : ¬R p x) : ¬(A ++ p :: x :: B).Pairwise R := fun h' =>
  h ((List.pairwise_cons.1 (List.pairwise_append.1 h').2.1).1 x (by simp))
theorem isHoleV_w {n : Nat} (h : Ho) (hn : n ≤ 1048576) (hl : h.2.length ≤ 1048576) : W (fun k _ => impl_isHole.f k h.1 h.2 (n : Int)) (fun b => b = true ↔ hOk n h) := by
  obtain ⟨ring, ts⟩ := h
  dsimp only at hl ⊢
  refine impl_isHole.w (W.bindN (fun k => within_eq k _ _ _) (W.ni (fun hb => W.ret ?_) (fun hb => ?_)))
  · rw [inR_no] at hb; exact ⟨fun e => (by cases e), fun e => (hb e.1).elim⟩
  have h1 := inR_iff.1 hb
  refine W.ndi (fun hb => W.ret ⟨fun e => (by cases e), fun e => (hb (by rw [e.2.1])).elim⟩) (fun h2 => ?_)
  refine W.bindE (areWithin_w _ _ _ hl) (W.ni (fun hb => W.ret ?_) (fun hb => ?_))
  · refine ⟨fun e => (by cases e), fun e => ?_⟩
    rw [List.all_eq_true.2 fun x hx => inR_iff.2 (e.2.2.1 x hx)] at hb; cases hb
  have h3 : ∀ x ∈ ts, -100000 ≤ x ∧ x ≤ 100000 := fun x hx => inR_iff.1 (List.all_eq_true.1 hb x hx)
  have h2 : ts.length = n := by omega
  refine impl_isHole.w0 ?_
  have key : ∀ (rest q : List Int) (y : Int), ts = q ++ y :: rest → dn (q ++ [y]) → W (fun k i => (impl_isHole.cs k i).2 (n : Int) ring ts ((q.length : Int) + 1)) (fun b => b = true ↔ hOk n (ring, ts)) := by
    intro rest
    induction rest with
    | nil =>
      intro q y e hd
      have hlen : ts.length = q.length + 1 := by rw [e]; simp
      exact impl_isHole.w1 (W.de (by omega) (W.ret ⟨fun _ => ⟨h1, h2, h3, by rw [e]; exact hd⟩, fun _ => rfl⟩))
    | cons x rest ih =>
      intro q y e hd
      have hlen : ts.length = q.length + (rest.length + 2) := by rw [e]; simp
      have hy : rd 0 ts (q.length : Int) = y := by rw [e]; exact rd_mid _ _ _
      have hp : ((q ++ [y]).length : Int) = (q.length : Int) + 1 := by simp
      have e' : ts = (q ++ [y]) ++ x :: rest := by rw [e]; simp
      have hx : rd 0 ts ((q.length : Int) + 1) = x := by rw [← hp, e']; exact rd_mid _ _ _
      refine impl_isHole.w1 (W.dt (by omega) ?_)
      rw [w64 (i := (q.length : Int) + 1 - 1) (by omega) (by omega), w64 (i := (q.length : Int) + 1 + 1) (by omega) (by omega), show (q.length : Int) + 1 - 1 = (q.length : Int) by omega, hx, hy]
      refine W.t (by omega) (W.t (by omega) (W.t (by omega) (W.t (by omega) (W.di (fun hlt => W.ret ⟨fun e => (by cases e), fun g => ?_⟩) (fun hge => ?_)))))
      · have g4 : dn ts := g.2.2.2
        rw [e] at g4
        exact (pw_no (R := fun a b : Int => b ≤ a) (by omega) g4).elim
      · have := ih (q ++ [y]) x e' (pw_snoc (R := fun a b : Int => b ≤ a) (fun a b c h h' => by omega) hd (by omega))
        rw [hp] at this; exact this
  cases ts with
  | nil => exact impl_isHole.w1 (W.de (by simp at h2; omega) (W.ret ⟨fun _ => ⟨h1, h2, h3, List.Pairwise.nil⟩, fun _ => rfl⟩))
  | cons y rest => exact key rest [] y rfl (List.pairwise_singleton _ _)
theorem validV_w (D : List Int) (H : List Ho) (hD : D.length ≤ 1048576) (hH : H.length ≤ 1048576) (hh : ∀ h ∈ H, h.2.length ≤ 1048576) : W (fun k _ => impl_ValidGround.f k D H) (fun b => b = true ↔ gOk D H) := by
  refine impl_ValidGround.w (W.bindN (fun k => within_eq k _ _ _) (W.ni (fun hb => W.ret ?_) (fun hb => ?_)))
  · rw [inR_no] at hb; exact ⟨fun e => (by cases e), fun e => (hb (by have := e.1; omega)).elim⟩
  have h1 := inR_iff.1 hb
  refine W.bindE (areWithin_w _ _ _ hD) (W.ni (fun hb => W.ret ?_) (fun hb => ?_))
  · refine ⟨fun e => (by cases e), fun e => ?_⟩
    rw [List.all_eq_true.2 fun x hx => inR_iff.2 (e.2.1 x hx)] at hb; cases hb
  have h2 : ∀ x ∈ D, 1 ≤ x ∧ x ≤ 3000 := fun x hx => inR_iff.1 (List.all_eq_true.1 hb x hx)
  refine W.bindN (fun k => within_eq k _ _ _) (W.ni (fun hb => W.ret ?_) (fun hb => ?_))
  · rw [inR_no] at hb; exact ⟨fun e => (by cases e), fun e => (hb (by have := e.2.2.1; omega)).elim⟩
  have h3 := inR_iff.1 hb
  refine impl_ValidGround.w0 ?_
  have key : ∀ (rest pre : List Ho), H = pre ++ rest → (∀ h ∈ pre, hOk D.length h) → pre.Pairwise (fun a b => a.1 < b.1) → W (fun k i => (impl_ValidGround.cs k i).2 D H H (H.length : Int) (pre.length : Int)) (fun b => b = true ↔ gOk D H) := by
    intro rest
    induction rest with
    | nil =>
      intro pre e ho hp
      rw [List.append_nil] at e
      exact impl_ValidGround.w1 (W.de (by rw [e]; omega) (W.ret ⟨fun _ => ⟨by omega, h2, by omega, by rw [e]; exact ho, by rw [e]; exact hp⟩, fun _ => rfl⟩))
    | cons x rest ih =>
      intro pre e ho hp
      have hlen : H.length = pre.length + (rest.length + 1) := by rw [e]; simp
      have hx : rd (0, []) H (pre.length : Int) = x := by rw [e]; exact rd_mid _ _ _
      have hxm : x ∈ H := by rw [e]; simp
      have hpl : ((pre ++ [x]).length : Int) = (pre.length : Int) + 1 := by simp
      refine impl_ValidGround.w1 (W.dt (by omega) (W.t (by omega) (W.t (by omega) ?_)))
      rw [hx, w64 (i := (pre.length : Int) + 1) (by omega) (by omega), w64 (i := (pre.length : Int) - 1) (by omega) (by omega)]
      refine W.bind (isHoleV_w x (by omega) (hh x hxm)) fun b hb => W.ni (fun hf => W.ret ⟨fun e => (by cases e), fun g => ?_⟩) (fun ht => ?_)
      · rw [hb.2 (g.2.2.2.1 x hxm)] at hf; cases hf
      have hox := hb.1 ht
      have ho' : ∀ h ∈ pre ++ [x], hOk D.length h := fun h hm => by
        rcases List.mem_append.1 hm with hm | hm
        · exact ho h hm
        · rw [List.mem_singleton] at hm; subst hm; exact hox
      have next : (pre ++ [x]).Pairwise (fun a b => a.1 < b.1) → W (fun k i => (impl_ValidGround.cs k i).2 D H H (H.length : Int) ((pre.length : Int) + 1)) (fun b => b = true ↔ gOk D H) := fun hp' => by
        have := ih (pre ++ [x]) (by simp [e]) ho' hp'
        rw [hpl] at this; exact this
      refine W.di (fun hpos => ?_) (fun hz => ?_)
      · rcases List.eq_nil_or_concat pre with rfl | ⟨q, y, rfl⟩
        · simp at hpos
        · rw [List.concat_eq_append] at *
          have hy : rd (0, []) H (((q ++ [y]).length : Int) - 1) = y := by
            rw [show ((q ++ [y]).length : Int) - 1 = (q.length : Int) by simp, e, List.append_assoc]; exact rd_mid _ _ _
          rw [hy]
          refine W.t (by omega) (W.t (by omega) (W.di (fun hle => W.ret ⟨fun e => (by cases e), fun g => ?_⟩) (fun hgt => next (pw_snoc (R := fun a b : Ho => a.1 < b.1) (fun a b c h h' => by omega) hp (by omega)))))
          have g5 := g.2.2.2.2
          rw [e, List.append_assoc] at g5
          exact (pw_no (R := fun a b : Ho => a.1 < b.1) (by omega) g5).elim
      · have : pre = [] := List.eq_nil_of_length_eq_zero (by omega)
        subst this
        exact next (List.pairwise_singleton _ _)
  exact key H [] rfl (by simp) List.Pairwise.nil
theorem specTops_w (ts : List Int) (n : Int) (hl : ts.length ≤ 1048576) : W (fun k _ => spec_l06Tops.f k ts n) (fun b => b = true ↔ ((ts.length : Int) = n ∧ (∀ x ∈ ts, -100000 ≤ x ∧ x ≤ 100000) ∧ dn ts)) := by
  refine spec_l06Tops.w ?_
  have key : ∀ (rest pre : List Int), ts = pre ++ rest → (∀ x ∈ pre, -100000 ≤ x ∧ x ≤ 100000) → dn pre → W (fun k i => (spec_l06Tops.cs k i) ts n (pre.length : Int)) (fun b => b = true ↔ ((ts.length : Int) = n ∧ (∀ x ∈ ts, -100000 ≤ x ∧ x ≤ 100000) ∧ dn ts)) := by
    intro rest
    induction rest with
    | nil =>
      intro pre e ho hp
      rw [List.append_nil] at e
      refine spec_l06Tops.w0 (W.de (by rw [e]; omega) (W.ret ?_))
      rw [decide_eq_true_eq]
      exact ⟨fun h => ⟨h, by rw [e]; exact ho, by rw [e]; exact hp⟩, fun h => h.1⟩
    | cons x rest ih =>
      intro pre e ho hp
      have hlen : ts.length = pre.length + (rest.length + 1) := by rw [e]; simp
      have hx : rd 0 ts (pre.length : Int) = x := by rw [e]; exact rd_mid _ _ _
      have hxm : x ∈ ts := by rw [e]; simp
      have hpl : ((pre ++ [x]).length : Int) = (pre.length : Int) + 1 := by simp
      refine spec_l06Tops.w0 (W.dt (by omega) (W.t (by omega) (W.t (by omega) ?_)))
      rw [hx, w64 (i := (pre.length : Int) + 1) (by omega) (by omega), w64 (i := (pre.length : Int) - 1) (by omega) (by omega)]
      refine W.bindN (fun k => l00InG_eq k _ _ _) (W.ni (fun hf => W.ret ⟨fun e => (by cases e), fun g => ?_⟩) (fun ht => ?_))
      · rw [inR_no] at hf; exact (hf (g.2.1 x hxm)).elim
      have ho' : ∀ y ∈ pre ++ [x], -100000 ≤ y ∧ y ≤ 100000 := fun h hm => by
        rcases List.mem_append.1 hm with hm | hm
        · exact ho h hm
        · rw [List.mem_singleton] at hm; subst hm; exact inR_iff.1 ht
      have next : dn (pre ++ [x]) → W (fun k i => (spec_l06Tops.cs k i) ts n ((pre.length : Int) + 1)) (fun b => b = true ↔ ((ts.length : Int) = n ∧ (∀ x ∈ ts, -100000 ≤ x ∧ x ≤ 100000) ∧ dn ts)) := fun hp' => by
        have := ih (pre ++ [x]) (by simp [e]) ho' hp'
        rw [hpl] at this; exact this
      refine W.di (fun hpos => ?_) (fun hz => ?_)
      · rcases List.eq_nil_or_concat pre with rfl | ⟨q, y, rfl⟩
        · simp at hpos
        · rw [List.concat_eq_append] at *
          have hy : rd 0 ts (((q ++ [y]).length : Int) - 1) = y := by
            rw [show ((q ++ [y]).length : Int) - 1 = (q.length : Int) by simp, e, List.append_assoc]; exact rd_mid _ _ _
          rw [hy]
          refine W.t (by omega) (W.t (by omega) (W.t (by omega) (W.t (by omega) (W.di (fun hle => W.ret ⟨fun e => (by cases e), fun g => ?_⟩) (fun hgt => next (pw_snoc (R := fun a b : Int => b ≤ a) (fun a b c h h' => by omega) hp (by omega)))))))
          have g5 := g.2.2
          rw [e, List.append_assoc] at g5
          exact (pw_no (R := fun a b : Int => b ≤ a) (by omega) g5).elim
      · have : pre = [] := List.eq_nil_of_length_eq_zero (by omega)
        subst this
        exact next (List.pairwise_singleton _ _)
  exact key ts [] rfl (by simp) List.Pairwise.nil
theorem specValid_w (D : List Int) (H : List Ho) (hD : D.length ≤ 1048576) (hH : H.length ≤ 1048576) (hh : ∀ h ∈ H, h.2.length ≤ 1048576) : W (fun k _ => spec_l06Is.f k D H) (fun b => b = true ↔ gOk D H) := by
  refine spec_l06Is.w (W.bindN (fun k => l00InG_eq k _ _ _) (W.ni (fun hb => W.ret ?_) (fun hb => ?_)))
  · rw [inR_no] at hb; exact ⟨fun e => (by cases e), fun e => (hb (by have := e.1; omega)).elim⟩
  have h1 := inR_iff.1 hb
  refine W.bindN (fun k => l00InG_eq k _ _ _) (W.ni (fun hb => W.ret ?_) (fun hb => ?_))
  · rw [inR_no] at hb; exact ⟨fun e => (by cases e), fun e => (hb (by have := e.2.2.1; omega)).elim⟩
  have h3 := inR_iff.1 hb
  refine spec_l06Is.w0 ?_
  have key : (∀ x ∈ D, 1 ≤ x ∧ x ≤ 3000) → ∀ (rest pre : List Ho), H = pre ++ rest → (∀ h ∈ pre, hOk D.length h) → pre.Pairwise (fun a b => a.1 < b.1) → W (fun k i => (spec_l06Is.cs k i).2.2 D H (pre.length : Int)) (fun b => b = true ↔ gOk D H) := by
    intro h2 rest
    induction rest with
    | nil =>
      intro pre e ho hp
      rw [List.append_nil] at e
      exact spec_l06Is.w2 (W.de (by rw [e]; omega) (W.ret ⟨fun _ => ⟨by omega, h2, by omega, by rw [e]; exact ho, by rw [e]; exact hp⟩, fun _ => rfl⟩))
    | cons x rest ih =>
      intro pre e ho hp
      have hlen : H.length = pre.length + (rest.length + 1) := by rw [e]; simp
      have hx : rd (0, []) H (pre.length : Int) = x := by rw [e]; exact rd_mid _ _ _
      have hxm : x ∈ H := by rw [e]; simp
      have hpl : ((pre ++ [x]).length : Int) = (pre.length : Int) + 1 := by simp
      refine spec_l06Is.w2 (W.dt (by omega) (W.t (by omega) (W.t (by omega) ?_)))
      rw [hx, w64 (i := (pre.length : Int) + 1) (by omega) (by omega), w64 (i := (pre.length : Int) - 1) (by omega) (by omega)]
      refine W.bindN (fun k => l00InG_eq k _ _ _) (W.ni (fun hf => W.ret ⟨fun e => (by cases e), fun g => ?_⟩) (fun ht => ?_))
      · rw [inR_no] at hf; exact (hf (g.2.2.2.1 x hxm).1).elim
      have hr := inR_iff.1 ht
      have tail : (pre ++ [x]).Pairwise (fun a b => a.1 < b.1) → W (fun k i => (spec_l06Tops.f k x.2 (D.length : Int)).bind fun t => if (!t) = true then some false else (spec_l06Is.cs k i).2.2 D H ((pre.length : Int) + 1)) (fun b => b = true ↔ gOk D H) := fun hp' => by
        refine W.bind (specTops_w x.2 (D.length : Int) (hh x hxm)) fun b hb => W.ni (fun hf => W.ret ⟨fun e => (by cases e), fun g => ?_⟩) (fun ht => ?_)
        · have gx := g.2.2.2.1 x hxm
          rw [hb.2 ⟨by rw [gx.2.1], gx.2.2.1, gx.2.2.2⟩] at hf; cases hf
        have hb' := hb.1 ht
        have hox : hOk D.length x := ⟨hr, by omega, hb'.2.1, hb'.2.2⟩
        have := ih (pre ++ [x]) (by simp [e]) (fun h hm => by
          rcases List.mem_append.1 hm with hm | hm
          · exact ho h hm
          · rw [List.mem_singleton] at hm; subst hm; exact hox) hp'
        rw [hpl] at this; exact this
      refine W.di (fun hpos => ?_) (fun hz => ?_)
      · rcases List.eq_nil_or_concat pre with rfl | ⟨q, y, rfl⟩
        · simp at hpos
        · rw [List.concat_eq_append] at *
          have hy : rd (0, []) H (((q ++ [y]).length : Int) - 1) = y := by
            rw [show ((q ++ [y]).length : Int) - 1 = (q.length : Int) by simp, e, List.append_assoc]; exact rd_mid _ _ _
          rw [hy]
          refine W.t (by omega) (W.t (by omega) (W.di (fun hle => W.ret ⟨fun e => (by cases e), fun g => ?_⟩) (fun hgt => tail (pw_snoc (R := fun a b : Ho => a.1 < b.1) (fun a b c h h' => by omega) hp (by omega)))))
          have g5 := g.2.2.2.2
          rw [e, List.append_assoc] at g5
          exact (pw_no (R := fun a b : Ho => a.1 < b.1) (by omega) g5).elim
      · have : pre = [] := List.eq_nil_of_length_eq_zero (by omega)
        subst this
        exact tail (List.pairwise_singleton _ _)
  have key1 : ∀ (rest pre : List Int), D = pre ++ rest → (∀ x ∈ pre, 1 ≤ x ∧ x ≤ 3000) → W (fun k i => (spec_l06Is.cs k i).2.1 D H (pre.length : Int)) (fun b => b = true ↔ gOk D H) := by
    intro rest
    induction rest with
    | nil =>
      intro pre e ho
      rw [List.append_nil] at e
      exact spec_l06Is.w1 (W.de (by rw [e]; omega) (key (by rw [e]; exact ho) H [] rfl (by simp) List.Pairwise.nil))
    | cons x rest ih =>
      intro pre e ho
      have hlen : D.length = pre.length + (rest.length + 1) := by rw [e]; simp
      have hx : rd 0 D (pre.length : Int) = x := by rw [e]; exact rd_mid _ _ _
      have hxm : x ∈ D := by rw [e]; simp
      refine spec_l06Is.w1 (W.dt (by omega) (W.t (by omega) (W.t (by omega) ?_)))
      rw [hx, w64 (i := (pre.length : Int) + 1) (by omega) (by omega)]
      refine W.bindN (fun k => l00InG_eq k _ _ _) (W.ni (fun hf => W.ret ⟨fun e => (by cases e), fun g => ?_⟩) (fun ht => ?_))
      · rw [inR_no] at hf; exact (hf (g.2.1 x hxm)).elim
      have := ih (pre ++ [x]) (by simp [e]) (fun y hm => by
        rcases List.mem_append.1 hm with hm | hm
        · exact ho y hm
        · rw [List.mem_singleton] at hm; subst hm; exact inR_iff.1 ht)
      rw [show ((pre ++ [x]).length : Int) = (pre.length : Int) + 1 by simp] at this
      exact this
  exact key1 D [] rfl (by simp)
end Go.Proofs.Ytlkmjldhhoopcaa.R
