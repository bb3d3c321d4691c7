/- Courses behind some rings: the program's ranges over maps. -/
import Derived.Test.YtigkpbnhdkdliaaXFnExactStB
import Derived.Test.YtigkpbnhdkdliaaXFnExactSt2
namespace Go.Proofs.Ytigkpbnhdkdliaa.R
open Go.Rv Go.Rv.St
set_option linter.unusedVariables false
set_option linter.unusedSimpArgs false
/-! ### The program -/
theorem afI_w {M H : Int} (hL : Lim M H) {c : C} (hc : ins M c = true) (rings : Nat) (h8 : rings ≤ 8) (hd : Int) (v : List Int) (hv : rises v) (hm : ∀ x, x ∈ v ↔ ∃ d, reach M H c rings d ∧ d.2.1 = hd ∧ x = d.1) :
    W (fun k _ => impl_OffsetsAfter.f k M H c.1 c.2.1 c.2.2 (rings : Int) hd) (· = (v, true)) := by
  have hM1 := hL.a
  have hM2 := hL.b
  -- the offsets are gathered
  have k4 : ∀ (n : Nat) (rem : Ms) (out : List Int), rem.length = n → n + out.length ≤ 11907 → (∀ x, (x ∈ out ∨ ∃ p ∈ rem, p.1.2.1 = hd ∧ x = p.1.1) ↔ x ∈ v) → W (fun k m => (impl_OffsetsAfter.cs k m).2.2.2.2 hd out rem) (· = (v, true)) := by
    intro n
    induction n with
    | zero =>
      intro rem out hr hl hx
      have : rem = [] := List.eq_nil_of_length_eq_zero hr
      subst this
      refine impl_OffsetsAfter.w4 (W.nextNil ?_)
      have hsl : (sorted out).length = out.length := by simp [sorted]
      refine W.bindN (t := sorted out) (fun k => by show sortF out = _; unfold sortF; rw [if_pos (by omega)]) (W.bindN (t := Lib.compact (sorted out)) (fun k => by show compactF _ = _; unfold compactF; rw [if_pos (by omega)]) (W.ret ?_))
      have hcr := compact_rises (sorted_le out)
      have : Lib.compact (sorted out) = v := rises_ext hcr.1 hv fun x => by
        rw [hcr.2, sorted_mem, ← hx x]
        simp
      rw [this]
    | succ n ih =>
      intro rem out hr hl hx
      refine impl_OffsetsAfter.w4 (W.nextAll (by intro e; rw [e] at hr; cases hr) fun p hp => ?_)
      have hperm := picks_perm hp
      have hpl := hperm.length_eq
      simp only [List.length_cons] at hpl
      refine W.di (fun h => W.t (by omega) (ih p.2 (out ++ [p.1.1.1]) (by omega) (by simp; omega) fun x => ?_)) (fun h => ih p.2 out (by omega) (by omega) fun x => ?_)
      · rw [← hx x]
        constructor
        · rintro (hxo | ⟨q, hq, e1, e2⟩)
          · rcases List.mem_append.1 hxo with hxo | hxo
            · exact .inl hxo
            · simp at hxo
              exact .inr ⟨p.1, hperm.mem_iff.2 List.mem_cons_self, h, hxo⟩
          · exact .inr ⟨q, hperm.mem_iff.2 (List.mem_cons_of_mem _ hq), e1, e2⟩
        · rintro (hxo | ⟨q, hq, e1, e2⟩)
          · exact .inl (List.mem_append_left _ hxo)
          · rcases List.mem_cons.1 (hperm.mem_iff.1 hq) with rfl | hq
            · exact .inl (by simp [e2])
            · exact .inr ⟨q, hq, e1, e2⟩
      · rw [← hx x]
        constructor
        · rintro (hxo | ⟨q, hq, e1, e2⟩)
          · exact .inl hxo
          · exact .inr ⟨q, hperm.mem_iff.2 (List.mem_cons_of_mem _ hq), e1, e2⟩
        · rintro (hxo | ⟨q, hq, e1, e2⟩)
          · exact .inl hxo
          · rcases List.mem_cons.1 (hperm.mem_iff.1 hq) with rfl | hq
            · exact (h e1).elim
            · exact .inr ⟨q, hq, e1, e2⟩
  -- the rings
  have k1 : ∀ (d i : Nat) (m : Ms), rings = i + d → (m.map (·.1)).Nodup → (∀ e, e ∈ m.map (·.1) ↔ reach M H c i e) → W (fun k m' => (impl_OffsetsAfter.cs k m').2.1 hd M H m (rings : Int) (i : Int)) (· = (v, true)) := by
    intro d
    induction d with
    | zero =>
      intro i m e hn hk
      refine impl_OffsetsAfter.w1 (W.de (by omega) (k4 m.length m [] rfl ?_ fun x => ?_))
      · have := keys_len hL hn fun e' he' => reach_ins hc ((hk e').1 he')
        simp at this ⊢
        omega
      · rw [hm x]
        obtain rfl : rings = i := by omega
        constructor
        · rintro (hxo | ⟨q, hq, e1, e2⟩)
          · cases hxo
          · exact ⟨q.1, (hk _).1 (List.mem_map.2 ⟨q, hq, rfl⟩), e1, e2⟩
        · rintro ⟨q, hq, e1, e2⟩
          obtain ⟨p, hp, rfl⟩ := List.mem_map.1 ((hk _).2 hq)
          exact .inr ⟨p, hp, e1, e2⟩
    | succ d ih =>
      intro i m e hn hk
      refine impl_OffsetsAfter.w1 (W.dt (by omega) ?_)
      have k2 : ∀ (n : Nat) (rem next : Ms), rem.length = n → (next.map (·.1)).Nodup → (∀ p ∈ rem, reach M H c i p.1) → (∀ e, (e ∈ next.map (·.1) ∨ ∃ p ∈ rem, ∃ t, nxo M H p.1 t = true ∧ e = stp p.1 t) ↔ reach M H c (i + 1) e) → W (fun k m' => (impl_OffsetsAfter.cs k m').2.2.1 hd M H next (rings : Int) (i : Int) rem) (· = (v, true)) := by
        intro n
        induction n with
        | zero =>
          intro rem next hr hn hri hx
          have : rem = [] := List.eq_nil_of_length_eq_zero hr
          subst this
          refine impl_OffsetsAfter.w2 (W.nextNil ?_)
          rw [w64 (i := (i : Int) + 1) (by omega) (by omega)]
          exact ih (i + 1) next (by omega) hn fun e' => by rw [← hx e']; simp
        | succ n ih2 =>
          intro rem next hr hn hri hx
          refine impl_OffsetsAfter.w2 (W.nextAll (by intro e; rw [e] at hr; cases hr) fun p hp => ?_)
          have hperm := picks_perm hp
          have hpl := hperm.length_eq
          simp only [List.length_cons] at hpl
          have hpr : reach M H c i p.1.1 := hri p.1 (hperm.mem_iff.2 List.mem_cons_self)
          have hpi := reach_ins hc hpr
          refine W.bindE (turnsI_w hL hpi) ?_
          have hts : ∀ t, t ∈ (tn M).filter (nxo M H p.1.1) ↔ nxo M H p.1.1 t = true := fun t => by
            rw [List.mem_filter]
            exact ⟨fun h => h.2, fun h => ⟨nxo_tn hL h, h⟩⟩
          have htl : ((tn M).filter (nxo M H p.1.1)).length ≤ 100 := by
            have h1 := List.length_filter_le (nxo M H p.1.1) (tn M)
            have h2 : ∀ (n : Nat) (x : Int), (from_ x n).length = n := fun n => by induction n with | zero => intro x; rfl | succ n ih => intro x; simp [from_, ih]
            have : (tn M).length ≤ 100 := by unfold tn; rw [h2]; omega
            omega
          generalize (tn M).filter (nxo M H p.1.1) = ts at hts htl ⊢
          have k3 : ∀ (rest pre : List Int) (next : Ms), ts = pre ++ rest → (next.map (·.1)).Nodup → (∀ e, (e ∈ next.map (·.1) ∨ (∃ t ∈ rest, e = stp p.1.1 t) ∨ ∃ q ∈ p.2, ∃ t, nxo M H q.1 t = true ∧ e = stp q.1 t) ↔ reach M H c (i + 1) e) → W (fun k m' => (impl_OffsetsAfter.cs k m').2.2.2.1 hd M H next p.1.1.1 p.1.1.2.1 p.1.1.2.2 (rings : Int) (i : Int) p.2 ts (ts.length : Int) (pre.length : Int)) (· = (v, true)) := by
            intro rest
            induction rest with
            | nil =>
              intro pre next e hn hx
              refine impl_OffsetsAfter.w3 (W.de (by rw [e]; simp) (ih2 p.2 next (by omega) hn (fun q hq => hri q (hperm.mem_iff.2 (List.mem_cons_of_mem _ hq))) fun e' => ?_))
              rw [← hx e']
              simp
            | cons t rest ih3 =>
              intro pre next e hn hx
              have hlen : ts.length = pre.length + (rest.length + 1) := by rw [e]; simp
              have hrd : rd 0 ts (pre.length : Int) = t := by rw [e]; exact rd_mid _ _ _
              have hto := (hts t).1 (by rw [e]; simp)
              have htb : -1000 ≤ t ∧ t ≤ 1000 := by
                have := (tn_mem hL).1 (nxo_tn hL hto)
                omega
              have hsi := nxo_ins hto
              refine impl_OffsetsAfter.w3 (W.dt (by omega) (W.t (by omega) (W.t (by omega) ?_)))
              rw [hrd, w64 (i := (pre.length : Int) + 1) (by omega) (by omega)]
              refine W.bindE (nextI_w hL (small_ins hL hpi) htb) ?_
              unfold nxV
              rw [if_pos hto]
              refine W.t (kwf_small (c := stp p.1.1 t) (small_ins hL hsi)) ?_
              obtain ⟨m1, m2⟩ := mput_keys (x := stp p.1.1 t) (m := next)
              have := ih3 (pre ++ [t]) (mput (stp p.1.1 t) true next) (by simp [e]) (m2 hn) fun e' => by
                rw [← hx e', m1 e']
                constructor
                · rintro ((rfl | h) | h | h)
                  · exact .inr (.inl ⟨t, List.mem_cons_self, rfl⟩)
                  · exact .inl h
                  · obtain ⟨t', h1, h2⟩ := h; exact .inr (.inl ⟨t', List.mem_cons_of_mem _ h1, h2⟩)
                  · exact .inr (.inr h)
                · rintro (h | ⟨t', h1, h2⟩ | h)
                  · exact .inl (.inr h)
                  · rcases List.mem_cons.1 h1 with rfl | h1
                    · exact .inl (.inl h2)
                    · exact .inr (.inl ⟨t', h1, h2⟩)
                  · exact .inr (.inr h)
              have e1 : ((pre ++ [t]).length : Int) = (pre.length : Int) + 1 := by simp
              rw [e1] at this
              exact this
          refine k3 ts [] next rfl hn fun e' => ?_
          rw [← hx e']
          constructor
          · rintro (h | ⟨t, h1, h2⟩ | ⟨q, h1, h2⟩)
            · exact .inl h
            · exact .inr ⟨p.1, hperm.mem_iff.2 List.mem_cons_self, t, (hts t).1 h1, h2⟩
            · exact .inr ⟨q, hperm.mem_iff.2 (List.mem_cons_of_mem _ h1), h2⟩
          · rintro (h | ⟨q, h1, t, h2, h3⟩)
            · exact .inl h
            · rcases List.mem_cons.1 (hperm.mem_iff.1 h1) with rfl | h1
              · exact .inr (.inl ⟨t, (hts t).2 h2, h3⟩)
              · exact .inr (.inr ⟨q, h1, t, h2, h3⟩)
      refine k2 m.length m [] rfl List.nodup_nil (fun p hp => (hk _).1 (List.mem_map.2 ⟨p, hp, rfl⟩)) fun e' => ?_
      constructor
      · rintro (h | ⟨p, hp, t, h1, h2⟩)
        · cases h
        · exact ⟨p.1, t, (hk _).1 (List.mem_map.2 ⟨p, hp, rfl⟩), h1, h2⟩
      · rintro ⟨q, t, hq, h1, h2⟩
        obtain ⟨p, hp, rfl⟩ := List.mem_map.1 ((hk _).2 hq)
        exact .inr ⟨p, hp, t, h1, h2⟩
  refine impl_OffsetsAfter.w (W.bindE (validI_w M H c) (W.ne (by rw [lim_iff.2 hL, hc]; rfl) (W.bindN (fun k => within5_eq k _ _ _) (W.ne (by rw [inn_iff]; omega) (impl_OffsetsAfter.w0 (W.t (kwf_small (small_ins hL hc)) ?_))))))
  have := k1 rings 0 [((c.1, (c.2.1, c.2.2)), true)] (by omega) (by simp) fun e => by
    simp only [List.map_cons, List.map_nil, List.mem_singleton]
    rfl
  exact this
end Go.Proofs.Ytigkpbnhdkdliaa.R
