/- Courses and ways home, by the reference. -/
import Derived.Test.YtigkpbnhdkdliaaXFnExactPlanBothStI
namespace Go.Proofs.Ytigkpbnhdkdliaa.R
open Go.Rv Go.Rv.St
set_option linter.unusedVariables false
set_option linter.unusedSimpArgs false
theorem in5_eq (k : Nat) (x lo hi : Int) : spec_l00In.f k x lo hi = some (inn lo hi x) := by
  unfold spec_l00In.f inn
  by_cases h : lo ≤ x <;> simp [h]
theorem limS_w (M H : Int) : W (fun k _ => spec_l05Limits.f k M H) (· = limB M H) := by
  refine spec_l05Limits.w (W.bindN (fun k => in5_eq k _ _ _) (W.bi (fun h => W.bindN (fun k => in5_eq k _ _ _) (W.ret ?_)) (fun h => W.ret ?_)))
  · simp [limB, h]
  · simp [limB, h]
theorem inS_w {M : Int} (h1 : 1 ≤ M ∧ M ≤ 3) (c : C) : W (fun k _ => spec_l05Inside.f k M c.1 c.2.1 c.2.2) (· = ins M c) := by
  refine spec_l05Inside.w (W.bindN (fun k => in5_eq k _ _ _) (W.bi (fun h => W.bindN (fun k => in5_eq k _ _ _) (W.bi (fun h' => W.bindN (fun k => in5_eq k _ _ _) (W.ret ?_)) (fun h' => W.ret ?_))) (fun h => W.ret ?_)))
  · rw [w64 (by omega) (by omega), Int.zero_sub]
    simp [ins, h, h']
  · simp [ins, h, h']
  · simp [ins, h]
theorem isS_w (M H : Int) (c : C) : W (fun k _ => spec_l05Is.f k M H c.1 c.2.1 c.2.2) (· = (limB M H && ins M c)) := by
  refine spec_l05Is.w (W.bindE (limS_w M H) (W.bi (fun h => ?_) (fun h => W.ret (by simp [h]))))
  have hL := lim_iff.1 h
  exact W.bindE (inS_w ⟨hL.a, hL.b⟩ c) (W.ret (by simp [h]))
theorem spot_eq (k : Nat) {c : C} (h : small c) : spec_l05Spot.f k c.1 c.2.1 c.2.2 = some (spot c) := by
  unfold small at h
  unfold spec_l05Spot.f spot
  rw [w64 (i := c.1 + 40) (by omega) (by omega), w64 (i := (c.1 + 40) * 21) (by omega) (by omega), w64 (i := (c.1 + 40) * 21 + c.2.1) (by omega) (by omega), w64 (i := (c.1 + 40) * 21 + c.2.1 + 10) (by omega) (by omega), w64 (i := ((c.1 + 40) * 21 + c.2.1 + 10) * 7) (by omega) (by omega), w64 (i := ((c.1 + 40) * 21 + c.2.1 + 10) * 7 + c.2.2) (by omega) (by omega), w64 (by omega) (by omega)]
theorem nextS_w {M H : Int} (hL : Lim M H) {c : C} (hc : small c) {t : Int} (ht : -1000 ≤ t ∧ t ≤ 1000) : W (fun k _ => spec_l05Next.f k M H c.1 c.2.1 c.2.2 t) (· = nxV M H c t) := by
  have h1 := hL.a
  have h2 := hL.b
  have h3 := hL.c
  have h4 := hL.d
  unfold small at hc
  refine spec_l05Next.w (W.bindN (fun k => in5_eq k _ _ _) ?_)
  rw [w64 (i := 0 - M) (by omega) (by omega), w64 (i := t - c.2.2) (by omega) (by omega), w64 (i := 0 - H) (by omega) (by omega), Int.zero_sub, Int.zero_sub]
  unfold nxV nxo
  refine W.ni (fun h => W.ret (by simp [h])) (fun h => ?_)
  refine W.bindN (fun k => in5_eq k _ _ _) ?_
  refine W.ni (fun h' => W.ret (by simp [h'])) (fun h' => spec_l05Next.w0 ?_)
  rw [w64 (i := c.1 + c.2.1) (by omega) (by omega), w64 (i := c.2.1 + t) (by omega) (by omega)]
  refine W.bindE (inS_w ⟨h1, h2⟩ (stp c t)) (W.ni (fun h3 => W.ret ?_) (fun h3 => W.ret ?_))
  · simp [h, h', h3]
  · simp only [h, h', h3, Bool.and_self, if_true]; rfl
/-! ### The table -/
theorem homeS_w {M H : Int} (hL : Lim M H) : W (fun k _ => spec_l05Home.f k M H) (fun T => Tab T (lev M H 40).1) := by
  have hM1 := hL.a
  have hM2 := hL.b
  have hH1 := hL.c
  have hH2 := hL.d
  -- the turns before
  have key1 : ∀ {P : List Int → Prop} {n : Int} (hn : 0 ≤ n ∧ n ≤ 40) (c : C) (hc : ins M c = true) (x4 : Int) (d : Nat) (b : Int) (s : S) (T : List Int), b + (d : Int) = M + 1 → -M ≤ b → Inv M n s → Tab T s.1 →
      (∀ T', Tab T' ((from_ b d).foldl (add M H c n) s).1 → W (fun k m => (spec_l05Home.cs k m).1 M H T' (((from_ b d).foldl (add M H c n) s).1.map (·.1)) (wrap64 (x4 + 1))) P) →
      W (fun k m => (spec_l05Home.cs k m).2 M H T (s.1.map (·.1)) x4 c.1 c.2.1 c.2.2 n b) P := by
    intro P n hn c hc x4 d
    induction d with
    | zero =>
      intro b s T e hb hi hT hK
      exact spec_l05Home.w1 (W.de (by omega) (hK T hT))
    | succ d ih =>
      intro b s T e hb hi hT hK
      have hci := ins_iff.1 hc
      have hps := prev_small hL hc (b := b) (by omega)
      have hsl := inv_len hL hi
      have hTl := hT.1
      have skip : ¬(goes M H c b = true ∧ mget (prev c b) s.1 = none) → W (fun k m => (spec_l05Home.cs k m).2 M H T (s.1.map (·.1)) x4 c.1 c.2.1 c.2.2 n (b + 1)) P := fun hno => by
        refine ih (b + 1) s T (by omega) (by omega) hi hT ?_
        have e2 : add M H c n s b = s := by unfold add; rw [if_neg hno]
        simpa [from_, e2] using hK
      refine spec_l05Home.w1 (W.dt (by omega) ?_)
      rw [w64 (i := c.2.1 - c.2.2) (by omega) (by omega), w64 (i := c.1 - (c.2.1 - c.2.2)) (by omega) (by omega), w64 (i := b + 1) (by omega) (by omega), w64 (i := c.2.2 - b) (by omega) (by omega), w64 (i := 0 - H) (by omega) (by omega), w64 (i := n + 1) (by omega) (by omega), Int.zero_sub]
      refine W.bindE (inS_w ⟨hM1, hM2⟩ (prev c b)) (W.ni (fun h1 => skip (fun h2 => by have := h2.1; simp [goes, h1] at this)) (fun h1 => ?_))
      refine W.bindN (fun k => in5_eq k _ _ _) (W.ni (fun h2 => skip (fun h3 => by have := h3.1; simp [goes, h2] at this)) (fun h2 => ?_))
      have hp3 := ins3 hL h1
      have hsp := spot_lt hp3
      have hg := hT.2 _ hp3
      refine W.bindN (fun k => spot_eq k (c := prev c b) hps) (W.t (by omega) (W.t (by omega) ?_))
      have hgo : goes M H c b = true := by simp [goes, h1, h2]
      cases hq : mget (prev c b) s.1 with
      | some v =>
        rw [hq] at hg
        have hv := (mget_ins hi hq).2
        have hg : rd 0 T (spot (prev c b)) = v + 1 := hg
        exact W.dt (by rw [hg]; omega) (skip (fun h3 => by rw [hq] at h3; cases h3.2))
      | none =>
        rw [hq] at hg
        have hg : rd 0 T (spot (prev c b)) = 0 := hg
        refine W.de (by rw [hg]; omega) (W.bindN (fun k => spot_eq k (c := prev c b) hps) (W.t (by omega) (W.t (by omega) (W.t (by simp only [List.length_map]; omega) ?_))))
        have e2 : add M H c n s b = (s.1 ++ [(prev c b, n)], s.2 ++ [prev c b]) := by unfold add; rw [if_pos ⟨hgo, hq⟩]
        have hi' := add_inv (H := H) hi hn.1 c b
        have hT' := tab_add hT hp3 (n := n) hq
        simp only [from_, List.foldl_cons] at hK
        rw [e2] at hi' hK
        have := ih (b + 1) _ _ (by omega) (by omega) hi' hT' hK
        rw [List.map_append] at this
        exact this
  -- a ring
  have key0 : ∀ {P : List Int → Prop} {n : Nat} (hn : n < 40) (rest : List C) (hr : ∀ c ∈ rest, ins M c = true) (pre : List C) (s : S) (T : List Int), (∃ q, s.1.map (·.1) = pre ++ rest ++ q) → (∀ c ∈ rest, mget c s.1 = some (n : Int)) → Inv M ((n : Int) + 1) s → Tab T s.1 →
      (∀ T', Tab T' (rest.foldl (proc M H ((n : Int) + 1)) s).1 → W (fun k m => (spec_l05Home.cs k m).1 M H T' ((rest.foldl (proc M H ((n : Int) + 1)) s).1.map (·.1)) (((pre ++ rest).length : Nat) : Int)) P) →
      W (fun k m => (spec_l05Home.cs k m).1 M H T (s.1.map (·.1)) (pre.length : Int)) P := by
    intro P n hn rest
    induction rest with
    | nil =>
      intro hr pre s T hq hl hi hT hK
      have := hK T hT
      simpa using this
    | cons c rest ih =>
      intro hr pre s T hq hl hi hT hK
      obtain ⟨q, hq⟩ := hq
      have hsl := inv_len hL hi
      have hlen : (s.1.map (·.1)).length = pre.length + (1 + rest.length + q.length) := by rw [hq]; simp; omega
      have hlen2 : (s.1.map (·.1)).length = s.1.length := by simp
      have hx : rd (0, (0, 0)) (s.1.map (·.1)) (pre.length : Int) = c := by rw [hq, List.append_assoc, List.cons_append]; exact rd_mid _ _ _
      have hci := hr c List.mem_cons_self
      have hc3 := ins3 hL hci
      have hsp := spot_lt hc3
      have hg := hT.2 _ hc3
      rw [hl c List.mem_cons_self] at hg
      have hg : rd 0 T (spot c) = (n : Int) + 1 := hg
      have hTl := hT.1
      refine spec_l05Home.w0 (W.dt (by omega) (W.t (by omega) (W.t (by omega) ?_)))
      rw [hx]
      refine W.bindN (fun k => spot_eq k (small_ins hL hci)) (W.t (by omega) (W.t (by omega) ?_))
      rw [hg, w64 (i := 0 - M) (by omega) (by omega), Int.zero_sub]
      refine W.de (by omega) (key1 (n := (n : Int) + 1) (by omega) c hci _ (2 * M + 1).toNat (-M) s T (by omega) (by omega) hi hT (fun T' hT' => ?_))
      rw [w64 (i := (pre.length : Int) + 1) (by omega) (by omega)]
      have hsuf : ∃ q', ((from_ (-M) (2 * M + 1).toNat).foldl (add M H c ((n : Int) + 1)) s).1.map (·.1) = (pre ++ [c]) ++ rest ++ q' := by
        refine foldl_inv (P := fun s' => ∃ q', s'.1.map (·.1) = (pre ++ [c]) ++ rest ++ q') (fun s' b hs => ?_) _ _ ⟨q, by rw [hq]; simp⟩
        obtain ⟨q', hs⟩ := hs
        unfold add
        split
        · exact ⟨q' ++ [prev c b], by simp [hs]⟩
        · exact ⟨q', hs⟩
      have hkeep : ∀ d ∈ rest, mget d ((from_ (-M) (2 * M + 1).toNat).foldl (add M H c ((n : Int) + 1)) s).1 = some (n : Int) := fun d hd =>
        foldl_inv (P := fun s' : S => mget d s'.1 = some (n : Int)) (fun s' b hs => by
          unfold add
          split
          · simp only [mget_app, hs]
          · exact hs) _ _ (hl d (List.mem_cons_of_mem _ hd))
      have := ih (fun d hd => hr d (List.mem_cons_of_mem _ hd)) (pre ++ [c]) (proc M H ((n : Int) + 1) s c) T' hsuf hkeep (proc_inv hi (by omega) c) hT' (fun T2 hT2 => by
        have := hK T2 hT2
        simpa using this)
      have e1 : ((pre ++ [c]).length : Int) = (pre.length : Int) + 1 := by simp
      rw [e1] at this
      exact this
  have key : ∀ (d i : Nat), i + d = 40 → ∀ T pre, Tab T (lev M H i).1 → (lev M H i).1.map (·.1) = pre ++ (lev M H i).2 → W (fun k m => (spec_l05Home.cs k m).1 M H T ((lev M H i).1.map (·.1)) (pre.length : Int)) (fun T => Tab T (lev M H 40).1) := by
    intro d
    induction d with
    | zero =>
      intro i e T pre hT hp
      obtain rfl : i = 40 := by omega
      have hi := lev_inv (H := H) hL 40
      have hsl := inv_len hL hi
      generalize hs : lev M H 40 = s at *
      by_cases hlt : pre.length < (s.1.map (·.1)).length
      case neg => exact spec_l05Home.w0 (W.de (by omega) (W.ret hT))
      cases hs2 : s.2 with
      | nil => rw [hs2] at hp; rw [hp] at hlt; simp at hlt
      | cons c rest =>
        rw [hs2] at hp
        have hm := hi.new c (by rw [hs2]; exact List.mem_cons_self)
        have hci := (mget_ins hi hm).1
        have hc3 := ins3 hL hci
        have hsp := spot_lt hc3
        have hg := hT.2 _ hc3
        rw [hm] at hg
        have hg : rd 0 T (spot c) = 41 := hg
        have hTl := hT.1
        have hx : rd (0, (0, 0)) (s.1.map (·.1)) (pre.length : Int) = c := by rw [hp]; exact rd_mid _ _ _
        refine spec_l05Home.w0 (W.dt (by omega) (W.t (by omega) (W.t (by omega) ?_)))
        rw [hx]
        refine W.bindN (fun k => spot_eq k (small_ins hL hci)) (W.t (by omega) (W.t (by omega) (W.dt (by omega) (W.ret hT))))
    | succ d ih =>
      intro i e T pre hT hp
      have hi := lev_inv (H := H) hL i
      refine key0 (n := i) (by omega) (lev M H i).2 (fun c hc => (mget_ins hi (hi.new c hc)).1) pre ((lev M H i).1, []) T ⟨[], by simpa using hp⟩ (fun c hc => hi.new c hc) (next_inv hi) hT (fun T' hT' => ?_)
      refine ih (i + 1) (by omega) T' (pre ++ (lev M H i).2) hT' ?_
      have := foldl_inv (P := fun s => s.1.map (·.1) = (lev M H i).1.map (·.1) ++ s.2) (f := proc M H ((i : Int) + 1)) (fun s c hs => proc_suf c hs) (lev M H i).2 ((lev M H i).1, []) (by simp)
      rw [hp] at this
      exact this
  refine spec_l05Home.w (W.t (by omega) (W.t (by omega) (W.t (by omega) (W.bindN (fun k => spot_eq k (c := (0, 0, 0)) (by unfold small; simp)) ?_))))
  have h0 : spot (0, 0, 0) = 5953 := by decide
  refine W.t (by omega) (W.t (by rw [List.length_replicate, h0]; omega) ?_)
  exact key 40 0 (by omega) _ [] tab_0 rfl
/-! ### The plan -/
theorem planS_w {M H : Int} (hL : Lim M H) {c : C} (hc : ins M c = true) : W (fun k _ => spec_l05Plan.f k M H c.1 c.2.1 c.2.2) (· = planV M H c) := by
  have hM1 := hL.a
  have hM2 := hL.b
  refine spec_l05Plan.w (W.bind (homeS_w hL) (fun T hT => ?_))
  unfold planV
  have hI : ∀ {c : C} {v : Int}, mget c (lev M H 40).1 = some v → 0 ≤ v ∧ v ≤ 40 := fun h => (mget_ins (lev_inv (H := H) hL 40) h).2
  generalize (lev M H 40).1 = m at *
  have hsp := spot_lt (ins3 hL hc)
  have hTl := hT.1
  refine W.bindN (fun k => spot_eq k (small_ins hL hc)) (W.t (by omega) (W.t (by omega) ?_))
  have hg := hT.2 _ (ins3 hL hc)
  cases hq : mget c m with
  | none =>
    rw [hq] at hg
    have hg : rd 0 T (spot c) = 0 := hg
    exact W.dt hg (W.ret rfl)
  | some n0 =>
    rw [hq] at hg
    have hg : rd 0 T (spot c) = n0 + 1 := hg
    have hn0 := hI hq
    rw [hg]
    refine W.de (by omega) ?_
    have key1 : ∀ (n : Nat) (hn : n ≤ 40) (c : C) (hc : ins M c = true) (acc : List Int) (hl : acc.length + n < 100),
        (∀ (c' : C) (acc' : List Int), ins M c' = true → acc'.length + n ≤ 100 → W (fun k m' => (spec_l05Plan.cs k m').1 M H c'.1 c'.2.1 c'.2.2 T ((n : Int) + 1) acc') (· = (acc' ++ go M H m n c', true))) →
        ∀ (d : Nat) (b : Int), b + (d : Int) = M + 1 → -M ≤ b → W (fun k m' => (spec_l05Plan.cs k m').2 M H c.1 c.2.1 c.2.2 T ((n : Int) + 1 + 1) acc b) (· = (acc ++ (match find M H m c n (from_ b d) with | some t => t :: go M H m n (stp c t) | none => go M H m n c), true)) := by
      intro n hn c hc acc hl hK d
      induction d with
      | zero =>
        intro b e hb
        refine spec_l05Plan.w1 (W.de (by omega) ?_)
        rw [w64 (i := (n : Int) + 1 + 1 - 1) (by omega) (by omega), show (n : Int) + 1 + 1 - 1 = (n : Int) + 1 by omega]
        exact hK c acc hc (by omega)
      | succ d ih =>
        intro b e hb
        have next := ih (b + 1) (by omega) (by omega)
        have no : ¬nxt? M H m c n b → find M H m c n (from_ b (d + 1)) = find M H m c n (from_ (b + 1) d) := fun h => by rw [from_, find, if_neg h]
        refine spec_l05Plan.w1 (W.dt (by omega) ?_)
        rw [w64 (i := b + 1) (by omega) (by omega), w64 (i := (n : Int) + 1 + 1 - 1) (by omega) (by omega), show (n : Int) + 1 + 1 - 1 = (n : Int) + 1 by omega]
        refine W.bindE (nextS_w hL (small_ins hL hc) (t := b) (by omega)) ?_
        unfold nxV
        cases hx : nxo M H c b with
        | false =>
          refine W.e (by simp) ?_
          rw [no (fun h => by rw [h.1] at hx; cases hx)]
          exact next
        | true =>
          have hst := nxo_ins hx
          have hst3 := ins3 hL hst
          have hsp := spot_lt hst3
          have hg := hT.2 _ hst3
          refine W.t rfl (W.bindN (fun k => spot_eq k (c := stp c b) (small_ins hL hst)) (W.t (by omega) (W.t (by omega) ?_)))
          cases hgt : mget (stp c b) m with
          | none =>
            rw [hgt] at hg
            have hg : rd 0 T (spot (stp c b)) = 0 := hg
            rw [hg, no (fun h => by rw [h.2] at hgt; cases hgt)]
            exact W.de (by omega) next
          | some v =>
            rw [hgt] at hg
            have hg : rd 0 T (spot (stp c b)) = v + 1 := hg
            rw [hg]
            refine W.di (fun hv => W.t (by omega) ?_) (fun hv => ?_)
            · obtain rfl : v = (n : Int) := by omega
              rw [show find M H m c n (from_ b (d + 1)) = some b by rw [from_, find]; exact if_pos (show nxt? M H m c n b from ⟨hx, hgt⟩)]
              have := hK (stp c b) (acc ++ [b]) hst (by simp; omega)
              simpa using this
            · rw [no (fun h => by rw [h.2] at hgt; cases hgt; exact hv rfl)]
              exact next
    have key0 : ∀ (n : Nat) (hn : n ≤ 40) (c : C) (acc : List Int), ins M c = true → acc.length + n ≤ 100 → W (fun k m' => (spec_l05Plan.cs k m').1 M H c.1 c.2.1 c.2.2 T ((n : Int) + 1) acc) (· = (acc ++ go M H m n c, true)) := by
      intro n
      induction n with
      | zero => intro hn c acc hc hl; exact spec_l05Plan.w0 (W.de (by omega) (W.ret (by simp [go])))
      | succ n ih =>
        intro hn c acc hc hl
        refine spec_l05Plan.w0 (W.dt (by omega) ?_)
        rw [w64 (i := 0 - M) (by omega) (by omega), Int.zero_sub]
        have := key1 n (by omega) c hc acc (by omega) (fun c' acc' h1 h2 => ih (by omega) c' acc' h1 h2) (2 * M + 1).toNat (-M) (by omega) (by omega)
        exact this
    have := key0 n0.toNat (by omega) c [] hc (by simp; omega)
    rw [Int.toNat_of_nonneg hn0.1] at this
    simpa using this
end Go.Proofs.Ytigkpbnhdkdliaa.R
