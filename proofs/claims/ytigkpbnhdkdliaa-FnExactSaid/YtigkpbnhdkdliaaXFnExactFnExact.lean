/- Steering home: the plain statement of the law on exact plans. -/
import Derived.Test.YtigkpbnhdkdliaaXFnExactRunI
import Derived.Test.YtigkpbnhdkdliaaXFnExactAfI
import Derived.Test.YtigkpbnhdkdliaaXFnExactBAt
import Derived.Test.YtigkpbnhdkdliaaXFnExactSrcN
import Derived.Test.YtigkpbnhdkdliaaRvPuFnExact
namespace Go.Proofs.Ytigkpbnhdkdliaa.Pure
open Go.Rv Go.Rv.St R
set_option linter.unusedVariables false
set_option linter.unusedSimpArgs false
/-! ### the offsets that can be reached, in a row -/
def reachL (M H : Int) (c : C) : Nat → List C
  | 0 => [c]
  | n + 1 => (reachL M H c n).flatMap fun e => ((tn M).filter (nxo M H e)).map (stp e)
theorem reachL_mem {M H : Int} (hL : Lim M H) {c : C} : ∀ {n : Nat} {d : C}, d ∈ reachL M H c n ↔ reach M H c n d
  | 0, d => by simp [reachL, reach]
  | n + 1, d => by
    simp only [reachL, reach, List.mem_flatMap, List.mem_map, List.mem_filter]
    constructor
    · rintro ⟨e, he, t, ⟨_, ht⟩, rfl⟩
      exact ⟨e, t, (reachL_mem hL).1 he, ht, rfl⟩
    · rintro ⟨e, t, he, ht, rfl⟩
      exact ⟨e, (reachL_mem hL).2 he, t, ⟨nxo_tn hL ht, ht⟩, rfl⟩
theorem row_ex {M H : Int} (hL : Lim M H) (c : C) (n : Nat) (hd : Int) : ∃ v : List Int, rises v ∧ ∀ x, x ∈ v ↔ ∃ d, reach M H c n d ∧ d.2.1 = hd ∧ x = d.1 := by
  have key : ∀ l : List C, ∃ v : List Int, rises v ∧ ∀ x, x ∈ v ↔ ∃ d, d ∈ l ∧ d.2.1 = hd ∧ x = d.1 := by
    intro l
    induction l with
    | nil => exact ⟨[], List.Pairwise.nil, fun x => by simp⟩
    | cons e l ih =>
      obtain ⟨v, h1, h2⟩ := ih
      by_cases he : e.2.1 = hd
      · refine ⟨putL e.1 v, putL_rises h1, fun x => ?_⟩
        rw [putL_mem, h2]
        constructor
        · rintro (rfl | ⟨d, d1, d2⟩)
          · exact ⟨e, List.mem_cons_self, he, rfl⟩
          · exact ⟨d, List.mem_cons_of_mem _ d1, d2⟩
        · rintro ⟨d, d1, d2, d3⟩
          rcases List.mem_cons.1 d1 with rfl | d1
          · exact .inl d3
          · exact .inr ⟨d, d1, d2, d3⟩
      · refine ⟨v, h1, fun x => ?_⟩
        rw [h2]
        constructor
        · rintro ⟨d, d1, d2⟩; exact ⟨d, List.mem_cons_of_mem _ d1, d2⟩
        · rintro ⟨d, d1, d2, d3⟩
          rcases List.mem_cons.1 d1 with rfl | d1
          · exact (he d2).elim
          · exact ⟨d, d1, d2, d3⟩
  obtain ⟨v, h1, h2⟩ := key (reachL M H c n)
  exact ⟨v, h1, fun x => by rw [h2]; simp only [reachL_mem hL]⟩
theorem rises_len : ∀ (l : List Int) (a b : Int), rises l → (∀ x ∈ l, a ≤ x ∧ x ≤ b) → a ≤ b + 1 → (l.length : Int) ≤ b + 1 - a
  | [], a, b, _, _, h => by simp; omega
  | x :: l, a, b, hr, hb, h => by
    obtain ⟨h1, h2⟩ := List.pairwise_cons.1 hr
    have hx := hb x List.mem_cons_self
    have := rises_len l (x + 1) b h2 (fun y hy => ⟨by have := h1 y hy; omega, (hb y (List.mem_cons_of_mem _ hy)).2⟩) (by omega)
    rw [List.length_cons]
    omega
theorem ends_tn {M H : Int} (hL : Lim M H) : ∀ (l : List Int) (c : C), ends M H c l → ∀ t ∈ l, -M ≤ t ∧ t ≤ M
  | [], _, _ => fun t ht => by cases ht
  | u :: l, c, h => fun t ht => by
    rcases List.mem_cons.1 ht with rfl | ht
    · exact (tn_mem hL).1 (nxo_tn hL h.1)
    · exact ends_tn hL l _ h.2 t ht
theorem has_w {v : List Int} {x : Int} (hx : x ∈ v) (hl : v.length ≤ 1000000) : W (fun k _ => laws_b10Has.f k v x) (· = true) := by
  refine laws_b10Has.w ?_
  have key : ∀ (rest pre : List Int), v = pre ++ rest → x ∈ rest → W (fun k m => (laws_b10Has.cs k m) v x (pre.length : Int)) (· = true) := by
    intro rest
    induction rest with
    | nil => intro pre e h; cases h
    | cons y rest ih =>
      intro pre e h
      have hlen : v.length = pre.length + (rest.length + 1) := by rw [e]; simp
      have hx2 : rd 0 v (pre.length : Int) = y := by rw [e]; exact rd_mid _ _ _
      refine laws_b10Has.w0 (W.dt (by omega) (W.t (by omega) (W.t (by omega) ?_)))
      rw [hx2]
      refine W.di (fun _ => W.ret rfl) (fun hne => ?_)
      have h' : x ∈ rest := by
        rcases List.mem_cons.1 h with e | e
        · exact absurd e.symm hne
        · exact e
      have := ih (pre ++ [y]) (by simp [e]) h'
      have e1 : ((pre ++ [y]).length : Int) = (pre.length : Int) + 1 := by simp
      rw [e1] at this
      rw [w64 (by omega) (by omega)]
      exact this
  exact key v [] rfl hx
theorem step6 {M H : Int} (hL : Lim M H) {e : C} {t : Int} (h : nxo M H e t = true) : -6 ≤ t - e.2.2 ∧ t - e.2.2 ≤ 6 := by
  simp only [nxo, Bool.and_eq_true, inn_iff] at h
  have := hL.d
  omega
theorem cost4 {M H : Int} (hL : Lim M H) {c1 c2 c3 s : Int} {ts pl : List Int} {P : Bool → Prop} (hl : ts.length ≤ 40) : ∀ (rest pre : List Int) (e : C) (acc : Int), ts = pre ++ rest → ends M H e rest → 0 ≤ acc → acc ≤ 36 * (pre.length : Int) →
    W (fun k m => (laws_FnExact.cs k m).2.2.2.2.2 s pl (acc + cst e rest) c3 0 0) P → W (fun k m => (laws_FnExact.cs k m).2.2.2.2.1 c1 c2 c3 ts s pl acc e.2.2 (pre.length : Int)) P := by
  intro rest
  induction rest with
  | nil =>
    intro pre e acc he hen h0 h1 hK
    refine laws_FnExact.w4 (W.de (by rw [he]; simp) ?_)
    simpa [cst] using hK
  | cons t rest ih =>
    intro pre e acc he hen h0 h1 hK
    have hlen : ts.length = pre.length + (rest.length + 1) := by rw [he]; simp
    have hx : rd 0 ts (pre.length : Int) = t := by rw [he]; exact rd_mid _ _ _
    have h6 := step6 hL hen.1
    have hsq := nxo_sq hL hen.1
    refine laws_FnExact.w4 (W.dt (by omega) (W.t (by omega) (W.t (by omega) (W.t (by omega) (W.t (by omega) (W.t (by omega) (W.t (by omega) ?_)))))))
    rw [hx, w64 (i := t - e.2.2) (by omega) (by omega), w64 (i := (t - e.2.2) * (t - e.2.2)) (by omega) (by omega), w64 (i := acc + (t - e.2.2) * (t - e.2.2)) (by omega) (by omega), w64 (i := (pre.length : Int) + 1) (by omega) (by omega)]
    have := ih (pre ++ [t]) (stp e t) (acc + (t - e.2.2) * (t - e.2.2)) (by simp [he]) hen.2 (by omega) (by rw [List.length_append]; simp only [List.length_cons, List.length_nil]; omega) (by
      rw [show acc + (t - e.2.2) * (t - e.2.2) + cst (stp e t) rest = acc + cst e (t :: rest) by simp only [cst]; omega]
      exact hK)
    have e1 : ((pre ++ [t]).length : Int) = (pre.length : Int) + 1 := by simp
    rw [e1] at this
    exact this
theorem cost5 {M H : Int} (hL : Lim M H) {s : Int} {pl : List Int} (hl : pl.length ≤ 40) : ∀ (rest pre : List Int) (e : C) (acc : Int), pl = pre ++ rest → ends M H e rest → 0 ≤ acc → acc ≤ 36 * (pre.length : Int) → s ≤ acc + cst e rest →
    W (fun k m => (laws_FnExact.cs k m).2.2.2.2.2 s pl s e.2.2 acc (pre.length : Int)) (· = true) := by
  intro rest
  induction rest with
  | nil =>
    intro pre e acc he hen h0 h1 hK
    refine laws_FnExact.w5 (W.de (by rw [he]; simp) (W.dt rfl (W.ret ?_)))
    simpa [cst] using hK
  | cons t rest ih =>
    intro pre e acc he hen h0 h1 hK
    have hlen : pl.length = pre.length + (rest.length + 1) := by rw [he]; simp
    have hx : rd 0 pl (pre.length : Int) = t := by rw [he]; exact rd_mid _ _ _
    have h6 := step6 hL hen.1
    have hsq := nxo_sq hL hen.1
    refine laws_FnExact.w5 (W.dt (by omega) (W.t (by omega) (W.t (by omega) (W.t (by omega) (W.t (by omega) (W.t (by omega) (W.t (by omega) ?_)))))))
    rw [hx, w64 (i := t - e.2.2) (by omega) (by omega), w64 (i := (t - e.2.2) * (t - e.2.2)) (by omega) (by omega), w64 (i := acc + (t - e.2.2) * (t - e.2.2)) (by omega) (by omega), w64 (i := (pre.length : Int) + 1) (by omega) (by omega)]
    have := ih (pre ++ [t]) (stp e t) (acc + (t - e.2.2) * (t - e.2.2)) (by simp [he]) hen.2 (by omega) (by rw [List.length_append]; simp only [List.length_cons, List.length_nil]; omega) (by
      rw [show acc + (t - e.2.2) * (t - e.2.2) + cst (stp e t) rest = acc + cst e (t :: rest) by simp only [cst]; omega]
      exact hK)
    have e1 : ((pre ++ [t]).length : Int) = (pre.length : Int) + 1 := by simp
    rw [e1] at this
    exact this
theorem nextC_w {M H : Int} (hL : Lim M H) {c : C} (hc : ins M c = true) {t : Int} (ht : -1000 ≤ t ∧ t ≤ 1000) : W (fun k _ => impl_NextCourse.f k M H c.1 c.2.1 c.2.2 t) (· = nxV M H c t) :=
  impl_NextCourse.w (W.bindE (validI_w M H c) (W.ne (by rw [lim_iff.2 hL, hc]; rfl) (W.bindE (nextI_w hL (small_ins hL hc) ht) (W.ret rfl))))
theorem steps_w {M H : Int} (hL : Lim M H) {c : C} (hc : ins M c = true) : W (fun k _ => impl_StepsHome.f k M H c.1 c.2.1 c.2.2) (· = ((mget c (lev M H 40).1).getD 0, (mget c (lev M H 40).1).isSome)) :=
  impl_StepsHome.w (W.bindE (validI_w M H c) (W.ne (by rw [lim_iff.2 hL, hc]; rfl) (W.bindE (distI_w hL) (W.t (kwf_small (small_ins hL hc)) (W.ret rfl)))))
/-- what the three ways home say of one another -/
theorem tail_w {M H : Int} (hL : Lim M H) {c : C} (hc : ins M c = true) : W (fun k m => (laws_FnExact.cs k m).2.1 M H c.1 c.2.1 c.2.2) (· = true) := by
  have hsm : T.smoothF M H c.1 c.2.1 c.2.2 8 = some (if (sm M H 8 c).2.2 = true then ((sm M H 8 c).2.1, (sm M H 8 c).1, true) else ([], 0, false)) := by
    unfold T.smoothF
    rw [if_pos (show ((limB M H && ins M (c.1, c.2.1, c.2.2)) && inn 0 8 8) = true by
      rw [lim_iff.2 hL, show ins M (c.1, c.2.1, c.2.2) = true from hc]; rfl)]
    show (if (sm M H 8 c).2.2 = true then some _ else some _) = some (if (sm M H 8 c).2.2 = true then _ else _)
    split <;> rfl
  refine laws_FnExact.w1 (W.bindE (steps_w hL hc) (W.bindN (fun k => hsm) ?_))
  by_cases hok : (sm M H 8 c).2.2 = true
  · rw [if_pos hok]
    obtain ⟨q1, q2, q3⟩ := sm_ok 8 c hok
    obtain ⟨bd, _⟩ := sm_bd hL 8 c
    obtain ⟨v, v1, v2, v3⟩ := lev_all hL 8 c _ q1 q2 hc
    have hv := lev_mget (show 8 ≤ 40 by omega) v1
    have hpl : planV M H c = (go M H (lev M H 40).1 v.toNat c, true) := by unfold planV; rw [hv]
    obtain ⟨p1, p2⟩ := go_ends hL 40 v.toNat c (by rw [hv, Int.toNat_of_nonneg v2])
    have hle : (sm M H 8 c).1 ≤ cst c (go M H (lev M H 40).1 v.toNat c) := by
      have hz := ends_wait (M := M) (H := H) hL (8 - v.toNat)
      have hv8 : v.toNat ≤ 8 := by omega
      have h1 := (sm_le hL 8 c (go M H (lev M H 40).1 v.toNat c ++ List.replicate (8 - v.toNat) 0) (by rw [List.length_append, p2, List.length_replicate]; omega) (ends_app _ _ c p1 hz.1)).2
      rw [cst_app (M := M) (H := H) _ _ c p1, hz.2] at h1
      omega
    rw [hv]
    refine W.t rfl (W.ne (by simp; omega) (laws_FnExact.w2 (W.ne rfl ?_)))
    have hpw := planHomeI_w M H c
    rw [if_pos (by rw [lim_iff.2 hL, hc]; rfl), hpl] at hpw
    refine W.bindE hpw ?_
    obtain ⟨r, r1, r2, r3⟩ := ends_run _ c q2
    have hrun := runI_w hL hc (sm M H 8 c).2.1 (by omega) (ends_tn hL _ c q2)
    rw [r1] at hrun
    refine W.bindE hrun (W.ne rfl (W.ne rfl (W.nde (by show (((sm M H 8 c).2.1.length : Nat) : Int) = 8; omega) (W.nde (by show (r.length : Int) = 8; omega) (W.t (by omega) (W.t (by show (7 : Int) < (r.length : Int); omega) ?_))))))
    have h7 := r3 (by omega)
    rw [q1] at h7
    have h7 : rd (0, (0, 0)) r 7 = home := h7
    refine W.ne (by
      show (decide ((rd (0, (0, 0)) r 7).1 = 0) && (decide (((rd (0, (0, 0)) r 7).2).1 = 0) && (decide (((rd (0, (0, 0)) r 7).2).2 = 0) && true))) = true
      rw [h7]; rfl) ?_
    refine laws_FnExact.w3 ?_
    have := cost4 hL (c1 := c.1) (c2 := c.2.1) (c3 := c.2.2) (s := (sm M H 8 c).1) (pl := go M H (lev M H 40).1 v.toNat c) (P := (· = true)) (ts := (sm M H 8 c).2.1) (by omega) _ [] c 0 rfl q2 (by omega) (by simp) (by
      rw [← q3, Int.zero_add]
      exact cost5 hL (by omega) _ [] c 0 rfl p1 (by omega) (by simp) (by omega))
    exact this
  · rw [if_neg hok]
    have hdone : W (fun k m => (laws_FnExact.cs k m).2.2.1 M H c.1 c.2.1 c.2.2 [] 0 false) (· = true) := laws_FnExact.w2 (W.nt rfl (W.ret rfl))
    cases hg : mget c (lev M H 40).1 with
    | none => exact W.e (by simp) (W.ne rfl hdone)
    | some n =>
      have hn0 := (mget_ins (lev_inv (H := H) hL 40) hg).2
      have hn : ¬ n ≤ 8 := fun hle => by
        obtain ⟨p1, p2⟩ := go_ends hL 40 n.toNat c (by rw [hg, Int.toNat_of_nonneg hn0.1])
        have hz := ends_wait (M := M) (H := H) hL (8 - n.toNat)
        exact hok (sm_le hL 8 c (go M H (lev M H 40).1 n.toNat c ++ List.replicate (8 - n.toNat) 0) (by rw [List.length_append, p2, List.length_replicate]; omega) (ends_app _ _ c p1 hz.1)).1
      exact W.t rfl (W.ne (by simp; omega) hdone)
theorem FnExact : PureFnExact := by
  intro e0 e1 w0 w1
  have hb0 : ∀ b ∈ e0, 0 ≤ b ∧ b ≤ 255 := fun b hb => wfu (w0.2 b hb)
  have hb1 : ∀ b ∈ e1, 0 ≤ b ∧ b ≤ 255 := fun b hb => wfu (w1.2 b hb)
  refine W.yes (laws_FnExact.w (W.bindE (b10Long_w e0 e1) (W.bi (fun _ => W.ret rfl) (fun hl => ?_))))
  refine W.bind (Q := fun r => (1 ≤ r.1 ∧ r.1 ≤ 3) ∧ (1 ≤ r.2.1 ∧ r.2.1 ≤ 5) ∧ (-12 ≤ r.2.2.1 ∧ r.2.2.1 ≤ 12) ∧ (-4 ≤ r.2.2.2.1 ∧ r.2.2.2.1 ≤ 4) ∧ (-1 ≤ r.2.2.2.2 ∧ r.2.2.2.2 ≤ 1)) ?_ ?_
  · refine spec_B10Course.w (W.bind (from_w hb0) fun t1 g1 => W.bind (pick_w g1 (by omega)) fun t2 g2 => W.bind (pick_w g2.2 (by omega)) fun t3 g3 => W.bind (pick_w g3.2 (by omega)) fun t4 g4 => W.bind (pick_w g4.2 (by omega)) fun t5 g5 => W.bind (pick_w g5.2 (by omega)) fun t6 g6 => W.ret ?_)
    have h2 := g2.1
    have h3 := g3.1
    have h4 := g4.1
    have h5 := g5.1
    have h6 := g6.1
    dsimp only
    rw [w64 (i := 1 + t2.1) (by omega) (by omega), w64 (i := 1 + t3.1) (by omega) (by omega), w64 (i := t4.1 - 12) (by omega) (by omega), w64 (i := t5.1 - 4) (by omega) (by omega), w64 (i := t6.1 - 1) (by omega) (by omega)]
    omega
  rintro ⟨M, H, c⟩ ⟨hM, hH, ha, hb, hd⟩
  dsimp only at hM hH ha hb hd ⊢
  have hL : Lim M H := ⟨hM.1, hM.2, hH.1, by omega⟩
  have hc : ins M c = true := by rw [ins_iff]; omega
  have fin : ∀ (rings : Nat) (d : C), rings ≤ 5 → reach M H c rings d → W (fun k m => (laws_FnExact.cs k m).1 e1 M H c.1 c.2.1 c.2.2 d.1 d.2.1 d.2.2 (rings : Int) 5) (· = true) := by
    intro rings d hr hd
    refine laws_FnExact.w0 (W.de (by omega) ?_)
    obtain ⟨v, hv, hm⟩ := row_ex hL c rings d.2.1
    refine W.bindE (afI_w hL hc rings (by omega) d.2.1 v hv hm) (W.ne rfl ?_)
    have hlen := rises_len v (-40) 40 hv (fun x hx => by
      obtain ⟨e, he, _, rfl⟩ := (hm x).1 hx
      exact (ins_iff.1 (reach_ins hc he)).1) (by omega)
    exact W.bindE (has_w (v := v) (x := d.1) ((hm d.1).2 ⟨d, hd, rfl, rfl⟩) (by omega)) (W.ne rfl (tail_w hL hc))
  have loop : ∀ (j i : Nat), i + j = 5 → ∀ (rings : Nat) (d : C), rings ≤ i → reach M H c rings d → W (fun k m => (laws_FnExact.cs k m).1 e1 M H c.1 c.2.1 c.2.2 d.1 d.2.1 d.2.2 (rings : Int) (i : Int)) (· = true) := by
    intro j
    induction j with
    | zero =>
      intro i hi rings d hr hd
      obtain rfl : i = 5 := by omega
      exact fin rings d hr hd
    | succ j ih =>
      intro i hi rings d hr hd
      have hdi := reach_ins hc hd
      refine laws_FnExact.w0 (W.dt (by omega) ?_)
      rw [w64 (i := 2 * M) (by omega) (by omega), w64 (i := 2 * M + 1) (by omega) (by omega)]
      refine W.bind (b10At_w hb1 (i : Int) (2 * M + 1) (by omega) (by omega)) fun (t : Int) ht => ?_
      rw [w64 (i := t - M) (by omega) (by omega)]
      refine W.bindE (nextC_w hL hdi (t := t - M) (by omega)) ?_
      unfold nxV
      rw [w64 (i := (i : Int) + 1) (by omega) (by omega)]
      have e2 : (i : Int) + 1 = ((i + 1 : Nat) : Int) := by omega
      rw [e2]
      cases hq : nxo M H d (t - M) with
      | true =>
        refine W.t rfl ?_
        rw [w64 (i := (rings : Int) + 1) (by omega) (by omega), show (rings : Int) + 1 = ((rings + 1 : Nat) : Int) by omega]
        exact ih (i + 1) (by omega) (rings + 1) (stp d (t - M)) (by omega) ⟨d, t - M, hd, hq, rfl⟩
      | false =>
        refine W.e (by simp) ?_
        exact ih (i + 1) (by omega) rings d (by omega) hd
  exact loop 5 0 (by omega) 0 c (Nat.le_refl _) rfl
end Go.Proofs.Ytigkpbnhdkdliaa.Pure
