/- Courses and ways home, by the program. -/
import Derived.Test.YtigkpbnhdkdliaaXFnExactStB
namespace Go.Proofs.Ytigkpbnhdkdliaa.R
open Go.Rv Go.Rv.St
set_option linter.unusedVariables false
set_option linter.unusedSimpArgs false
theorem prev_step (c : C) (b : Int) : stp (prev c b) c.2.2 = c := by
  obtain ⟨o, h, t⟩ := c
  simp only [stp, prev, Prod.mk.injEq]
  exact ⟨by omega, by omega, trivial⟩
/-- does the program take the course before? -/
theorem goes_nxo {M H : Int} {c : C} (hc : ins M c = true) (b : Int) : (ins M (prev c b) = true ∧ nxo M H (prev c b) c.2.2 = true) ↔ goes M H c b = true := by
  have h := ins_iff.1 hc
  simp only [nxo, goes, prev_step, hc, Bool.and_true, Bool.and_eq_true, inn_iff]
  have e : (prev c b).2.2 = b := rfl
  rw [e]
  exact ⟨fun h' => ⟨h'.1, h'.2.2⟩, fun h' => ⟨h'.1, by omega, h'.2⟩⟩
theorem prev_small {M H : Int} (hL : Lim M H) {c : C} (hc : ins M c = true) {b : Int} (hb : -M ≤ b ∧ b ≤ M) : small (prev c b) := by
  have h := ins_iff.1 hc
  have := hL.b
  unfold small prev
  simp only
  omega
theorem distI_w {M H : Int} (hL : Lim M H) : W (fun k _ => impl_Limits_distances.f k M H) (· = (lev M H 40).1) := by
  have hM1 := hL.a
  have hM2 := hL.b
  -- the turns before
  have key2 : ∀ {P : Mp → Prop} {n : Int} (hn : 0 ≤ n) (c : C) (hc : ins M c = true) (x2 x10 : List C) (x11 x12 : Int) (d : Nat) (b : Int) (s : S), b + (d : Int) = M + 1 → -M ≤ b → Inv M n s → (∃ pre, s.1.map (·.1) = pre ++ s.2) →
      W (fun k m => (impl_Limits_distances.cs k m).2.1 M H ((from_ b d).foldl (add M H c n) s).1 x2 n ((from_ b d).foldl (add M H c n) s).2 x10 x11 (wrap64 (x12 + 1))) P →
      W (fun k m => (impl_Limits_distances.cs k m).2.2.1 M H s.1 x2 n s.2 c.1 c.2.1 c.2.2 b x10 x11 x12) P := by
    intro P n hn c hc x2 x10 x11 x12 d
    induction d with
    | zero =>
      intro b s e hb hi hsf hK
      exact impl_Limits_distances.w2 (W.de (by omega) hK)
    | succ d ih =>
      intro b s e hb hi hsf hK
      have hci := ins_iff.1 hc
      have hps := prev_small hL hc (b := b) (by omega)
      have hin := prev_step c b
      have hnl := new_len hL hi hsf
      refine impl_Limits_distances.w2 (W.dt (by omega) ?_)
      rw [w64 (i := c.2.1 - c.2.2) (by omega) (by omega), w64 (i := c.1 - (c.2.1 - c.2.2)) (by omega) (by omega), w64 (i := b + 1) (by omega) (by omega)]
      refine W.bindE (nextI_w hL (c := prev c b) hps (t := c.2.2) (by omega)) (W.bindE (isC_w ⟨hM1, hM2⟩ H (prev c b)) ?_)
      have gz := goes_nxo (M := M) (H := H) hc b
      have skip : ¬(goes M H c b = true ∧ mget (prev c b) s.1 = none) → W (fun k m => (impl_Limits_distances.cs k m).2.2.1 M H s.1 x2 n s.2 c.1 c.2.1 c.2.2 (b + 1) x10 x11 x12) P := fun hno => by
        refine ih (b + 1) s (by omega) (by omega) hi hsf ?_
        have e2 : add M H c n s b = s := by unfold add; rw [if_neg hno]
        simpa [from_, e2] using hK
      refine W.ni (fun h1 => skip (fun h2 => by have := (gz.2 h2.1).1; rw [h1] at this; cases this)) (fun h1 => ?_)
      have hnx : (nxV M H (prev c b) c.2.2) = if nxo M H (prev c b) c.2.2 = true then (c.1, c.2.1, c.2.2, true) else (0, 0, 0, false) := by unfold nxV; rw [hin]
      cases hq : nxo M H (prev c b) c.2.2 with
      | false =>
        rw [hq] at hnx
        rw [hnx]
        refine W.nt rfl (skip (fun h2 => by have := (gz.2 h2.1).2; rw [hq] at this; cases this))
      | true =>
        rw [hq] at hnx
        rw [hnx]
        refine W.ne rfl (W.e (by simp) (impl_Limits_distances.w3 ?_))
        refine W.t (kwf_small (c := prev c b) hps) ?_
        show W (fun k m => if (!(mget (prev c b) s.1).isSome) = true then _ else _) P
        cases hg : mget (prev c b) s.1 with
        | some v =>
          refine W.ne rfl ?_
          rw [w64 (i := b + 1) (by omega) (by omega)]
          exact skip (fun h2 => by rw [hg] at h2; cases h2.2)
        | none =>
          refine W.nt rfl (W.t (kwf_small (c := prev c b) hps) (W.t (by omega) ?_))
          rw [w64 (i := b + 1) (by omega) (by omega)]
          have e2 : add M H c n s b = (s.1 ++ [(prev c b, n)], s.2 ++ [prev c b]) := by unfold add; rw [if_pos ⟨gz.1 ⟨h1, hq⟩, hg⟩]
          have e3 : mput (c.1 - (c.2.1 - c.2.2), (c.2.1 - c.2.2, b)) n s.1 = s.1 ++ [(prev c b, n)] := mput_new hg
          have hi' := add_inv (H := H) hi hn c b
          obtain ⟨pre, hsf⟩ := hsf
          have hs' := add_suf (M := M) (H := H) (n := n) c b hsf
          simp only [from_, List.foldl_cons] at hK
          rw [e2] at hi' hs' hK
          rw [e3]
          exact ih (b + 1) _ (by omega) (by omega) hi' ⟨pre, hs'⟩ hK
  -- a ring
  have key1 : ∀ {P : Mp → Prop} {n : Int} (hn : 0 ≤ n) (x2 ring : List C) (hr : ∀ c ∈ ring, ins M c = true) (hrl : ring.length ≤ 11907) (rest pre : List C) (s : S), ring = pre ++ rest → Inv M n s → (∃ pre, s.1.map (·.1) = pre ++ s.2) →
      W (fun k m => (impl_Limits_distances.cs k m).1 M H (rest.foldl (proc M H n) s).1 (rest.foldl (proc M H n) s).2 (wrap64 (n + 1))) P →
      W (fun k m => (impl_Limits_distances.cs k m).2.1 M H s.1 x2 n s.2 ring (ring.length : Int) (pre.length : Int)) P := by
    intro P n hn x2 ring hr hrl rest
    induction rest with
    | nil =>
      intro pre s e hi hsf hK
      exact impl_Limits_distances.w1 (W.de (by rw [e]; simp) hK)
    | cons c rest ih =>
      intro pre s e hi hsf hK
      have hlen : ring.length = pre.length + (rest.length + 1) := by rw [e]; simp
      have hx : rd (0, (0, 0)) ring (pre.length : Int) = c := by rw [e]; exact rd_mid _ _ _
      refine impl_Limits_distances.w1 (W.dt (by omega) (W.t (by omega) (W.t (by omega) ?_)))
      rw [hx, w64 (i := 0 - M) (by omega) (by omega), Int.zero_sub]
      refine key2 hn c (hr c (by rw [e]; simp)) x2 ring _ _ (2 * M + 1).toNat (-M) s (by omega) (by omega) hi hsf ?_
      have hp := ih (pre ++ [c]) (proc M H n s c) (by simp [e]) (proc_inv hi hn c) (by obtain ⟨p, hp⟩ := hsf; exact ⟨p, proc_suf c hp⟩) hK
      rw [w64 (i := (pre.length : Int) + 1) (by omega) (by omega)]
      have e1 : ((pre ++ [c]).length : Int) = (pre.length : Int) + 1 := by simp
      rw [e1] at hp
      exact hp
  have key0 : ∀ (d i : Nat), i + d = 40 → W (fun k m => (impl_Limits_distances.cs k m).1 M H (lev M H i).1 (lev M H i).2 ((i : Int) + 1)) (· = (lev M H 40).1) := by
    intro d
    induction d with
    | zero =>
      intro i e
      obtain rfl : i = 40 := by omega
      exact impl_Limits_distances.w0 (W.de (by omega) (W.ret rfl))
    | succ d ih =>
      intro i e
      have hi := lev_inv (H := H) hL i
      have hsf := lev_suf (M := M) (H := H) i
      refine impl_Limits_distances.w0 (W.dt (by omega) ?_)
      refine key1 (n := (i : Int) + 1) (by omega) _ _ (fun c hc => (mget_ins hi (hi.new c hc)).1) (new_len hL hi hsf) _ [] ((lev M H i).1, []) rfl (by have := next_inv hi; exact this) ⟨(lev M H i).1.map (·.1), by simp⟩ ?_
      rw [w64 (i := (i : Int) + 1 + 1) (by omega) (by omega)]
      have := ih (i + 1) (by omega)
      exact this
  refine impl_Limits_distances.w (W.t (kwf_small (c := (0, 0, 0)) (by unfold small; simp)) ?_)
  rw [show mput ((0 : Int), ((0 : Int), (0 : Int))) (0 : Int) ([] : List ((Int × Int × Int) × Int)) = (lev M H 0).1 from mput_new rfl]
  exact key0 40 0 (by omega)
/-! ### The plan -/
theorem find_filter {M H : Int} {m : Mp} {c : C} {n : Int} : ∀ l : List Int, find M H m c n (l.filter (nxo M H c)) = find M H m c n l
  | [] => rfl
  | t :: l => by
    cases hq : nxo M H c t with
    | true =>
      rw [List.filter_cons_of_pos hq]
      simp only [find, find_filter l]
    | false =>
      rw [List.filter_cons_of_neg (by rw [hq]; simp), find_filter l, find, if_neg (fun h => by rw [h.1] at hq; cases hq)]
theorem planI_w {M H : Int} (hL : Lim M H) {c : C} (hc : ins M c = true) : W (fun k _ => impl_Limits_plan.f k M H c.1 c.2.1 c.2.2) (· = planV M H c) := by
  have hM1 := hL.a
  have hM2 := hL.b
  refine impl_Limits_plan.w (W.bindE (distI_w hL) (W.t (kwf_small (small_ins hL hc)) ?_))
  unfold planV
  have hI : ∀ {c : C} {v : Int}, mget c (lev M H 40).1 = some v → 0 ≤ v ∧ v ≤ 40 := fun h => (mget_ins (lev_inv (H := H) hL 40) h).2
  generalize (lev M H 40).1 = m at *
  show W (fun k m' => if (!(mget c m).isSome) = true then _ else _) _
  cases hg : mget c m with
  | none => exact W.nt rfl (W.ret rfl)
  | some n0 =>
    refine W.ne rfl ?_
    have hn0 := hI hg
    have key1 : ∀ (n : Nat) (c : C) (hc : ins M c = true) (acc ts : List Int) (hts : ∀ t ∈ ts, nxo M H c t = true ∧ (-1000 ≤ t ∧ t ≤ 1000)) (hl : acc.length + n < 100) (htl : ts.length ≤ 100),
        (∀ (c' : C) (acc' : List Int), ins M c' = true → acc'.length + n ≤ 100 → W (fun k m' => (impl_Limits_plan.cs k m').1 M H c'.1 c'.2.1 c'.2.2 m (n : Int) acc') (· = (acc' ++ go M H m n c', true))) →
        ∀ rest pre, ts = pre ++ rest → W (fun k m' => (impl_Limits_plan.cs k m').2 M H c.1 c.2.1 c.2.2 m ((n : Int) + 1) acc ts (ts.length : Int) (pre.length : Int)) (· = (acc ++ (match find M H m c n rest with | some t => t :: go M H m n (stp c t) | none => go M H m n c), true)) := by
      intro n c hc acc ts hts hl htl hK rest
      induction rest with
      | nil =>
        intro pre e
        refine impl_Limits_plan.w1 (W.de (by rw [e]; simp) ?_)
        rw [w64 (i := (n : Int) + 1 - 1) (by omega) (by omega), show (n : Int) + 1 - 1 = n by omega]
        exact hK c acc hc (by omega)
      | cons t rest ih =>
        intro pre e
        have hlen : ts.length = pre.length + (rest.length + 1) := by rw [e]; simp
        have hx : rd 0 ts (pre.length : Int) = t := by rw [e]; exact rd_mid _ _ _
        obtain ⟨ht, ht2⟩ := hts t (by rw [e]; simp)
        have hst := nxo_ins ht
        refine impl_Limits_plan.w1 (W.dt (by omega) (W.t (by omega) (W.t (by omega) ?_)))
        rw [hx, w64 (i := (pre.length : Int) + 1) (by omega) (by omega), w64 (i := (n : Int) + 1 - 1) (by omega) (by omega), show (n : Int) + 1 - 1 = n by omega]
        refine W.bindE (nextI_w hL (small_ins hL hc) ht2) ?_
        unfold nxV
        rw [if_pos ht]
        refine W.t (kwf_small (small_ins hL hst)) ?_
        have next := ih (pre ++ [t]) (by simp [e])
        have e1 : ((pre ++ [t]).length : Int) = (pre.length : Int) + 1 := by simp
        rw [e1] at next
        have no : mget (stp c t) m ≠ some (n : Int) → find M H m c n (t :: rest) = find M H m c n rest := fun h => by rw [find, if_neg (fun h' => h h'.2)]
        show W (fun k m' => if (mget (stp c t) m).isSome = true then if decide ((mget (stp c t) m).getD 0 = (n : Int)) = true then _ else _ else _) _
        cases hgt : mget (stp c t) m with
        | none =>
          refine W.e (by simp) ?_
          rw [no (by rw [hgt]; simp)]
          exact next
        | some v =>
          refine W.t rfl (W.di (fun hv => W.t (by omega) ?_) (fun hv => ?_))
          · have hv : v = (n : Int) := hv
            subst hv
            rw [find, if_pos ⟨ht, hgt⟩]
            have := hK (stp c t) (acc ++ [t]) hst (by simp; omega)
            simpa using this
          · have hv : v ≠ (n : Int) := hv
            rw [no (by rw [hgt]; simpa using hv)]
            exact next
    have key0 : ∀ (n : Nat) (c : C) (acc : List Int), ins M c = true → acc.length + n ≤ 100 → W (fun k m' => (impl_Limits_plan.cs k m').1 M H c.1 c.2.1 c.2.2 m (n : Int) acc) (· = (acc ++ go M H m n c, true)) := by
      intro n
      induction n with
      | zero => intro c acc hc hl; exact impl_Limits_plan.w0 (W.de (by omega) (W.ret (by simp [go])))
      | succ n ih =>
        intro c acc hc hl
        refine impl_Limits_plan.w0 (W.dt (by omega) (W.bindE (turnsI_w hL hc) ?_))
        have := key1 n c hc acc ((tn M).filter (nxo M H c)) (fun t ht => by
          obtain ⟨h1, h2⟩ := List.mem_filter.1 ht
          have := (tn_mem hL).1 h1
          exact ⟨h2, by omega⟩) (by omega) (by
          have h1 := List.length_filter_le (nxo M H c) (tn M)
          have h2 : ∀ (n : Nat) (x : Int), (from_ x n).length = n := fun n => by induction n with | zero => intro x; rfl | succ n ih => intro x; simp [from_, ih]
          have : (tn M).length ≤ 100 := by unfold tn; rw [h2]; omega
          omega) (fun c' acc' h1 h2 => ih c' acc' h1 h2) _ [] rfl
        rw [find_filter] at this
        exact this
    have := key0 n0.toNat c [] hc (by simp; omega)
    rw [Int.toNat_of_nonneg hn0.1] at this
    simpa using this
theorem planHomeI_w (M H : Int) (c : C) : W (fun k _ => impl_PlanHome.f k M H c.1 c.2.1 c.2.2) (· = if (limB M H && ins M c) = true then planV M H c else ([], false)) := by
  refine impl_PlanHome.w (W.bindE (validI_w M H c) (W.ni (fun h => W.ret (by rw [h]; rfl)) (fun h => ?_)))
  rw [h]
  simp only [Bool.and_eq_true] at h
  exact W.bindE (planI_w (lim_iff.1 h.1) h.2) (W.ret (by simp))
end Go.Proofs.Ytigkpbnhdkdliaa.R
