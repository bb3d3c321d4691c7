/- The tops by the reference. -/
import Derived.Test.YtlkmjldhhoopcaaXFnExactTopsAtGnd5
import Derived.Test.YtlkmjldhhoopcaaXFnExactTopsAtGndV
namespace Go.Proofs.Ytlkmjldhhoopcaa.R
open Go.Rv Go.Rv.Ax
set_option linter.unusedVariables false
set_option linter.unusedSimpArgs false
theorem l01Floor_eq (k : Nat) (a b : Int) (hb : 1 ≤ b ∧ b ≤ 1000) (ha : -100000000000 ≤ a ∧ a ≤ 100000000000) : spec_l01Floor.f k a b = some (a / b) := by
  rw [← floor_eq k a b hb ha]
  rfl
theorem up_at {H : List Ho} (h : H.Pairwise fun a b => a.1 < b.1) {i j : Nat} (hij : i < j) (hj : j < H.length) : (rd (0, []) H (i : Int)).1 < (rd (0, []) H (j : Int)).1 := by
  rw [rd_at hj, rd_at (show i < H.length by omega)]
  exact List.pairwise_iff_getElem.1 h i j _ _ hij
theorem up_le {H : List Ho} (h : H.Pairwise fun a b => a.1 < b.1) {i j : Nat} (hij : i ≤ j) (hj : j < H.length) : (rd (0, []) H (i : Int)).1 ≤ (rd (0, []) H (j : Int)).1 := by
  rcases Nat.lt_or_ge i j with hlt | hge
  · have := up_at h hlt hj; omega
  · rw [show i = j by omega]; exact Int.le_refl _
theorem cut_n {α : Type} [Inhabited α] {d : α} (l : List α) (i : Nat) (h : i < l.length) : l = l.take i ++ rd d l (i : Int) :: l.drop (i + 1) := by
  rw [rd_at h]; simp
theorem own_w (l : List Int) (hl : l.length ≤ 1000) : W (fun k _ => spec_l00Own.f k l) (· = l) :=
  spec_l00Own.w (W.t (by simp only [List.length_nil]; omega) (W.ret (List.nil_append l)))
/-- the interpolated tops -/
theorem specMid_w (r : Int) {n : Nat} {a c : Ho} (ha : hOk n a) (hc : hOk n c) (hr : a.1 ≤ r ∧ r ≤ 60) (hac : a.1 < c.1) (hrc : r ≤ c.1) (hn : n ≤ 1000) :
    W (fun k i => (spec_l06At.cs k i).2.2.1 r a.1 a.2 c.1 c.2) (· = List.zipWith (fun x y => mid x y (r - a.1) (c.1 - a.1)) a.2 c.2) := by
  refine spec_l06At.w2 ?_
  have ha1 := ha.1
  have hc1 := hc.1
  have key : ∀ (rest pre qest qre : List Int), a.2 = pre ++ rest → c.2 = qre ++ qest → pre.length = qre.length →
      W (fun k i => (spec_l06At.cs k i).2.2.2 r a.1 a.2 c.1 c.2 (List.zipWith (fun x y => mid x y (r - a.1) (c.1 - a.1)) pre qre) (pre.length : Int)) (· = List.zipWith (fun x y => mid x y (r - a.1) (c.1 - a.1)) a.2 c.2) := by
    intro rest
    induction rest with
    | nil =>
      intro pre qest qre e e' hl
      have h1 : a.2.length = pre.length := by rw [e]; simp
      have : qest = [] := by
        have h2 : c.2.length = qre.length + qest.length := by rw [e']; simp
        have := ha.2.1
        have := hc.2.1
        exact List.eq_nil_of_length_eq_zero (by omega)
      subst this
      rw [List.append_nil] at e e'
      exact spec_l06At.w3 (W.de (by omega) (W.ret (by rw [e, e'])))
    | cons x rest ih =>
      intro pre qest qre e e' hl
      have h1 : a.2.length = pre.length + (rest.length + 1) := by rw [e]; simp
      have h2 : c.2.length = qre.length + qest.length := by rw [e']; simp
      have e1 := ha.2.1
      have e2 := hc.2.1
      cases qest with
      | nil => simp at h2; omega
      | cons y qest =>
        have hx : rd 0 a.2 (pre.length : Int) = x := by rw [e]; exact rd_mid _ _ _
        have hy : rd 0 c.2 (pre.length : Int) = y := by rw [e', hl]; exact rd_mid _ _ _
        have bx := ha.2.2.1 x (by rw [e]; simp)
        have bY := hc.2.2.1 y (by rw [e']; simp)
        have hm := mul_small (u := y - x) (e := r - a.1) (by omega) (by omega)
        have hw := mid_within (a := x) (b := y) (e := r - a.1) (d := c.1 - a.1) bx bY (by omega) (by omega)
        refine spec_l06At.w3 (W.dt (by omega) (W.t (by omega) (W.t (by omega) (W.t (by omega) (W.t (by omega) (W.t (by omega) (W.t (by omega) ?_)))))))
        rw [hx, hy, w64 (i := y - x) (by omega) (by omega), w64 (i := r - a.1) (by omega) (by omega), w64 (i := (y - x) * (r - a.1)) (by omega) (by omega), w64 (i := c.1 - a.1) (by omega) (by omega)]
        refine W.bindN (fun k => l01Floor_eq k _ _ (by omega) (by omega)) ?_
        have hmid : x + (y - x) * (r - a.1) / (c.1 - a.1) = mid x y (r - a.1) (c.1 - a.1) := rfl
        rw [hmid, w64 (i := mid x y (r - a.1) (c.1 - a.1)) (by omega) (by omega), w64 (i := (pre.length : Int) + 1) (by omega) (by omega)]
        refine W.t (by rw [List.length_zipWith]; omega) ?_
        have := ih (pre ++ [x]) qest (qre ++ [y]) (by simp [e]) (by simp [e']) (by simp [hl])
        rw [List.zipWith_append hl] at this
        simpa using this
  exact key a.2 [] c.2 [] rfl rfl rfl
theorem specAt_w {D : List Int} {H : List Ho} (g : gOk D H) (r : Int) (hr : 0 ≤ r ∧ r ≤ 60) : W (fun k _ => spec_l06At.f k D H r) (· = topsGo none H r) := by
  obtain ⟨g1, g2, g3, g4, g5⟩ := g
  have hmem : ∀ i : Nat, i < H.length → rd (0, []) H (i : Int) ∈ H := fun i hi => by rw [rd_at hi]; exact List.getElem_mem _
  -- the end
  have fin : ∀ i j : Nat, i < H.length → j < H.length → (i = 0 ∨ (rd (0, []) H (i : Int)).1 ≤ r) → (i + 1 = H.length ∨ r < (rd (0, []) H ((i + 1 : Nat) : Int)).1) → (j + 1 = H.length ∨ r ≤ (rd (0, []) H (j : Int)).1) → (j = 0 ∨ (rd (0, []) H ((j - 1 : Nat) : Int)).1 < r) →
      W (fun k m => if 0 ≤ (i : Int) then if (i : Int) < (H.length : Int) then if 0 ≤ (j : Int) then if (j : Int) < (H.length : Int) then (if (decide (r < (rd (0, []) H (i : Int)).1)) = true then (spec_l00Own.f k ((rd (0, []) H (i : Int)).2)).bind fun t1 => some t1 else (if (decide ((rd (0, []) H (j : Int)).1 ≤ (rd (0, []) H (i : Int)).1)) = true then (spec_l00Own.f k ((rd (0, []) H (i : Int)).2)).bind fun t2 => some t2 else (spec_l06At.cs k m).2.2.1 r ((rd (0, []) H (i : Int)).1) ((rd (0, []) H (i : Int)).2) ((rd (0, []) H (j : Int)).1) ((rd (0, []) H (j : Int)).2))) else none else none else none else none) (· = topsGo none H r) := by
    intro i j hi hj i1 i2 j1 j2
    refine W.t (by omega) (W.t (by omega) (W.t (by omega) (W.t (by omega) ?_)))
    have hai := hmem i hi
    have haj := hmem j hj
    have ho := g4 _ hai
    have ho' := g4 _ haj
    have hown := own_w (rd (0, []) H (i : Int)).2 (by have := ho.2.1; omega)
    have hcut := cut_n (d := ((0, []) : Ho)) H i hi
    have hpre : ∀ q ∈ H.take i, q.1 < (rd (0, []) H (i : Int)).1 := fun q hq => by
      rw [hcut, List.pairwise_append] at g5
      exact g5.2.2 q hq _ (by simp)
    refine W.di (fun hlt => ?_) (fun hge => ?_)
    · have : i = 0 := by rcases i1 with h | h <;> omega
      subst this
      refine W.bindE hown (W.ret ?_)
      have key := topsGo_none (h := rd (0, []) H ((0 : Nat) : Int)) (t := H.drop (0 + 1)) (r := r) (by omega)
      rw [show rd (0, []) H ((0 : Nat) : Int) :: H.drop (0 + 1) = H from hcut.symm] at key
      exact key.symm
    by_cases heq : (rd (0, []) H (i : Int)).1 = r
    · have hji : j = i := by
        rcases Nat.lt_trichotomy j i with h | h | h
        · have := up_at g5 h hi
          rcases j1 with h' | h' <;> omega
        · exact h
        · have := up_le g5 (i := i) (j := j - 1) (by omega) (by omega)
          rcases j2 with h' | h' <;> omega
      subst hji
      refine W.dt (Int.le_refl _) (W.bindE hown (W.ret ?_))
      have := tops_at (D := D) ⟨g1, g2, g3, g4, g5⟩ hcut
      rw [heq] at this
      exact this.symm
    · have hlt : (rd (0, []) H (i : Int)).1 < r := by omega
      by_cases hlast : i + 1 = H.length
      · have hji : j = i := by
          rcases Nat.lt_or_ge j i with h | h
          · have := up_at g5 h hi
            rcases j1 with h' | h' <;> omega
          · omega
        subst hji
        refine W.dt (Int.le_refl _) (W.bindE hown (W.ret ?_))
        have hd : H.drop (j + 1) = [] := List.drop_eq_nil_of_le (by omega)
        rw [hd] at hcut
        have ht := topsGo_skip r (rd (0, []) H (j : Int)) [] (H.take j) none (fun q hq => by
          rcases List.mem_append.1 hq with hq | hq
          · have := hpre q hq; omega
          · rw [List.mem_singleton] at hq; subst hq; exact hlt)
        rw [← hcut] at ht
        exact ht.symm
      · have hnx : r < (rd (0, []) H ((i + 1 : Nat) : Int)).1 := by rcases i2 with h | h; exact absurd h hlast; exact h
        have hji : j = i + 1 := by
          rcases Nat.lt_or_ge j (i + 1) with h | h
          · have := up_le g5 (i := j) (j := i) (by omega) hi
            rcases j1 with h' | h' <;> omega
          · rcases Nat.lt_or_ge (i + 1) j with h2 | h2
            · have := up_le g5 (i := i + 1) (j := j - 1) (by omega) (by omega)
              rcases j2 with h' | h' <;> omega
            · omega
        subst hji
        refine W.de (by omega) ((specMid_w r ho ho' ⟨by omega, hr.2⟩ (by omega) (by omega) (by omega)).mono fun v hv => ?_)
        rw [hv]
        have hcut2 := cut_n (d := ((0, []) : Ho)) H (i + 1) (by omega)
        have hdr : H.drop (i + 1) = rd (0, []) H ((i + 1 : Nat) : Int) :: H.drop (i + 2) := by
          rw [rd_at (by omega), ← List.drop_eq_getElem_cons (by omega)]
        generalize rd (0, []) H ((i + 1 : Nat) : Int) = c at *
        generalize rd (0, []) H (i : Int) = a at *
        rw [hdr] at hcut
        have ht := topsGo_skip r a (c :: H.drop (i + 2)) (H.take i) none (fun q hq => by
          rcases List.mem_append.1 hq with hq | hq
          · have := hpre q hq; omega
          · rw [List.mem_singleton] at hq; subst hq; exact hlt)
        rw [← hcut, topsGo_some (by omega), if_neg (by omega)] at ht
        exact ht.symm
  -- from behind
  have back : ∀ (j i : Nat), i < H.length → j < H.length → (i = 0 ∨ (rd (0, []) H (i : Int)).1 ≤ r) → (i + 1 = H.length ∨ r < (rd (0, []) H ((i + 1 : Nat) : Int)).1) → (j + 1 = H.length ∨ r ≤ (rd (0, []) H (j : Int)).1) →
      W (fun k m => (spec_l06At.cs k m).2.1 D H r (i : Int) (j : Int)) (· = topsGo none H r) := by
    intro j
    induction j with
    | zero =>
      intro i hi hj i1 i2 j1
      exact spec_l06At.w1 (W.de (by omega) (fin i 0 hi hj i1 i2 j1 (.inl rfl)))
    | succ j ih =>
      intro i hi hj i1 i2 j1
      refine spec_l06At.w1 (W.dt (by omega) ?_)
      rw [w64 (i := ((j + 1 : Nat) : Int) - 1) (by omega) (by omega), show ((j + 1 : Nat) : Int) - 1 = (j : Int) by omega]
      refine W.t (by omega) (W.t (by omega) (W.di (fun h => ih i hi (by omega) i1 i2 (.inr h)) (fun h => fin i (j + 1) hi hj i1 i2 j1 (.inr (by rw [Nat.add_sub_cancel]; omega)))))
  -- from the front
  have front : ∀ (d i : Nat), i + d + 1 = H.length → (i = 0 ∨ (rd (0, []) H (i : Int)).1 ≤ r) → W (fun k m => (spec_l06At.cs k m).1 D H r (i : Int)) (· = topsGo none H r) := by
    intro d
    induction d with
    | zero =>
      intro i hi i1
      refine spec_l06At.w0 ?_
      rw [w64 (i := (i : Int) + 1) (by omega) (by omega), w64 (i := (H.length : Int) - 1) (by omega) (by omega)]
      refine W.de (by omega) ?_
      have := back (H.length - 1) i (by omega) (by omega) i1 (.inl (by omega)) (.inl (by omega))
      rw [show ((H.length - 1 : Nat) : Int) = (H.length : Int) - 1 by omega] at this
      exact this
    | succ d ih =>
      intro i hi i1
      refine spec_l06At.w0 ?_
      rw [w64 (i := (i : Int) + 1) (by omega) (by omega), w64 (i := (H.length : Int) - 1) (by omega) (by omega)]
      refine W.dt (by omega) (W.t (by omega) (W.t (by omega) (W.di (fun h => ?_) (fun h => ?_))))
      · exact ih (i + 1) (by omega) (.inr h)
      · have := back (H.length - 1) i (by omega) (by omega) i1 (.inr (by rw [show ((i + 1 : Nat) : Int) = (i : Int) + 1 by omega]; omega)) (.inl (by omega))
        rw [show ((H.length - 1 : Nat) : Int) = (H.length : Int) - 1 by omega] at this
        exact this
  exact spec_l06At.w (front (H.length - 1) 0 (by omega) (.inl rfl))
end Go.Proofs.Ytlkmjldhhoopcaa.R
