/- The program's OffsetsAfter answers what the reference's does, for all arguments, and its result is new memory: the plain statement. -/
import Derived.Test.YtigkpbnhdkdliaaXFnExactOffsetsAfterAf
import Derived.Test.YtigkpbnhdkdliaaXFnExactOffsetsAfterFr
import Derived.Test.YtigkpbnhdkdliaaRvPuFnExactOffsetsAfter
namespace Go.Proofs.Ytigkpbnhdkdliaa.Pure
open Go.Rv Go.Rv.St R
set_option linter.unusedVariables false
set_option linter.unusedSimpArgs false
theorem afV_w {M H : Int} (hL : Lim M H) {c : C} (hc : ins M c = true) (rings : Nat) (h8 : rings ≤ 8) (hd : Int) : W (fun k _ => spec_OffsetsAfter.f k M H c.1 c.2.1 c.2.2 (rings : Int) hd) (fun v => v.2 = true ∧ v.1.length ≤ 11907 ∧ rises v.1 ∧ ∀ x, x ∈ v.1 ↔ ∃ d, reach M H c rings d ∧ d.2.1 = hd ∧ x = d.1) := by
  refine spec_OffsetsAfter.w (W.bindE (isS_w M H c) (W.ne (by rw [lim_iff.2 hL, hc]; rfl) (W.bindN (fun k => in5_eq k _ _ _) (W.ne (by rw [inn_iff]; omega) (spec_OffsetsAfter.w0 (W.bind (afterS_w hL hc rings h8) (fun L hLL => ?_)))))))
  obtain ⟨hl, hx⟩ := hLL
  have key : ∀ (rest pre : List C) (out : List Int), L = pre ++ rest → out.length ≤ pre.length → rises out → (∀ x, x ∈ out ↔ ∃ d ∈ pre, d.2.1 = hd ∧ x = d.1) → W (fun k m => (spec_OffsetsAfter.cs k m).2 hd out L (pre.length : Int)) (fun v => v.2 = true ∧ v.1.length ≤ 11907 ∧ rises v.1 ∧ ∀ x, x ∈ v.1 ↔ ∃ d, reach M H c rings d ∧ d.2.1 = hd ∧ x = d.1) := by
    intro rest
    induction rest with
    | nil =>
      intro pre out e ho hr hm
      have hpl := congrArg List.length e
      simp only [List.append_nil] at hpl e
      refine spec_OffsetsAfter.w1 (W.de (by omega) (W.ret ⟨rfl, by simp only; omega, hr, fun x => ?_⟩))
      rw [hm x, ← e]
      constructor
      · rintro ⟨d, h1, h2⟩; exact ⟨d, (hx d).1 h1, h2⟩
      · rintro ⟨d, h1, h2⟩; exact ⟨d, (hx d).2 h1, h2⟩
    | cons q rest ih =>
      intro pre out e ho hr hm
      have hlen : L.length = pre.length + (rest.length + 1) := by rw [e]; simp
      have hrd : rd (0, (0, 0)) L (pre.length : Int) = q := by rw [e]; exact rd_mid _ _ _
      have e1 : ((pre ++ [q]).length : Int) = (pre.length : Int) + 1 := by simp
      refine spec_OffsetsAfter.w1 (W.dt (by omega) (W.t (by omega) (W.t (by omega) ?_)))
      rw [hrd, w64 (i := (pre.length : Int) + 1) (by omega) (by omega)]
      refine W.di (fun h => W.t (by omega) (W.t (by omega) (W.bindE (putS_w out q.1 (by omega)) ?_))) (fun h => ?_)
      · have hpl := putL_len q.1 out
        have := ih (pre ++ [q]) (putL q.1 out) (by simp [e]) (by simp; omega) (putL_rises hr) fun x => by
          rw [putL_mem, hm x]
          constructor
          · rintro (rfl | ⟨d, h1, h2⟩)
            · exact ⟨q, by simp, h, rfl⟩
            · exact ⟨d, List.mem_append_left _ h1, h2⟩
          · rintro ⟨d, h1, h2, h3⟩
            rcases List.mem_append.1 h1 with h1 | h1
            · exact .inr ⟨d, h1, h2, h3⟩
            · simp at h1; subst h1; exact .inl h3
        rw [e1] at this
        exact this
      · have := ih (pre ++ [q]) out (by simp [e]) (by simp; omega) hr fun x => by
          rw [hm x]
          constructor
          · rintro ⟨d, h1, h2⟩
            exact ⟨d, List.mem_append_left _ h1, h2⟩
          · rintro ⟨d, h1, h2, h3⟩
            rcases List.mem_append.1 h1 with h1 | h1
            · exact ⟨d, h1, h2, h3⟩
            · simp at h1; subst h1; exact (h h2).elim
        rw [e1] at this
        exact this
  exact key L [] [] rfl (by simp) List.Pairwise.nil (by simp)
theorem noI_w {M H : Int} {c : C} {n hd : Int} (h : ¬((limB M H && ins M c) = true ∧ inn 0 8 n = true)) : W (fun k _ => impl_OffsetsAfter.f k M H c.1 c.2.1 c.2.2 n hd) (· = ([], false)) := by
  refine impl_OffsetsAfter.w (W.bindE (validI_w M H c) (W.ni (fun _ => W.ret rfl) (fun h1 => W.bindN (fun k => within5_eq k _ _ _) (W.ni (fun _ => W.ret rfl) (fun h2 => ?_)))))
  exact (h ⟨h1, h2⟩).elim
theorem noS_w {M H : Int} {c : C} {n hd : Int} (h : ¬((limB M H && ins M c) = true ∧ inn 0 8 n = true)) : W (fun k _ => spec_OffsetsAfter.f k M H c.1 c.2.1 c.2.2 n hd) (· = ([], false)) := by
  refine spec_OffsetsAfter.w (W.bindE (isS_w M H c) (W.ni (fun _ => W.ret rfl) (fun h1 => W.bindN (fun k => in5_eq k _ _ _) (W.ni (fun _ => W.ret rfl) (fun h2 => ?_)))))
  exact (h ⟨h1, h2⟩).elim
theorem both_w (M H : Int) (c : C) (n hd : Int) : ∃ v : List Int × Bool, v.1.length ≤ 11907 ∧ W (fun k _ => spec_OffsetsAfter.f k M H c.1 c.2.1 c.2.2 n hd) (· = v) ∧ W (fun k _ => impl_OffsetsAfter.f k M H c.1 c.2.1 c.2.2 n hd) (· = v) := by
  by_cases h : (limB M H && ins M c) = true ∧ inn 0 8 n = true
  case neg => exact ⟨([], false), by simp, noS_w h, noI_w h⟩
  obtain ⟨h1, h2⟩ := h
  simp only [Bool.and_eq_true] at h1
  rw [inn_iff] at h2
  have hL := lim_iff.1 h1.1
  obtain ⟨r, rfl⟩ := Int.eq_ofNat_of_zero_le h2.1
  obtain ⟨v, ⟨p1, p2, p3, p4⟩, hn⟩ := afV_w hL h1.2 r (by omega) hd
  obtain ⟨l, b⟩ := v
  simp only at p1 p2 p3 p4
  subst p1
  exact ⟨(l, true), p2, ⟨(l, true), rfl, hn⟩, afI_w hL h1.2 r (by omega) hd l p3 p4⟩
theorem FnExactOffsetsAfter : PureFnExactOffsetsAfter := by
  rintro ⟨M, H⟩ ⟨o, h, t⟩ n hd _ _ _ _
  show ∃ k, laws_FnExactOffsetsAfter.f k M H o h t n hd = some true
  obtain ⟨v, hl, hS, hI⟩ := both_w M H (o, h, t) n hd
  have E := eqInt64S_w v.1 (by omega)
  refine W.yes (laws_FnExactOffsetsAfter.w (W.bindN (fun k => rfl) (W.bindN (fun k => rfl) (W.bindE hS (W.bindN (fun k => rfl) (W.bindN (fun k => rfl) (W.bindE hI (W.bindE E (W.ne rfl (W.e (by simp) (laws_FnExactOffsetsAfter.w0 ?_)))))))))))
  refine W.bindE (markInt64S_w v.1 1 (by omega) (by omega)) (W.bindE (heldInt64S_w v.1 1 (by omega) (by omega)) (W.de (by omega) (W.nde rfl ?_)))
  refine W.bindN (fun k => rfl) (W.bindN (fun k => rfl) (W.bindE hI (W.bindE E (W.ne rfl (W.e (by simp) ?_)))))
  exact W.bindE (heldInt64S_w v.1 1 (by omega) (by omega)) (W.de (by omega) (W.nde rfl (W.ret rfl)))
end Go.Proofs.Ytigkpbnhdkdliaa.Pure
