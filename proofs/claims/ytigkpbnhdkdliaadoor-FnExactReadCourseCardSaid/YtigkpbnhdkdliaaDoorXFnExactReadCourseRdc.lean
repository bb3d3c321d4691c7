/- The course of a text, by the reference. -/
import Derived.Test.YtigkpbnhdkdliaaDoorXFnExactReadCourseRdI
import Derived.Test.YtigkpbnhdkdliaaDoorXFnExactReadCourseTxV
namespace Go.Proofs.YtigkpbnhdkdliaaDoor.R
open Go.Rv Go.Rv.Tx Go.Rv.Ax
set_option linter.unusedVariables false
set_option linter.unusedSimpArgs false
theorem l05Small_eq' (k : Nat) (a b c : Int) : spec_l05Small.f k a b c = some (told' a b c) := by
  unfold spec_l05Small.f told'
  simp only [l00In_eq', Option.bind_some]
  cases inR (-1000) 1000 a <;> cases inR (-1000) 1000 b <;> simp
theorem piece_w {P : Int × Int × Int × Bool → Prop} (l done p rest : List UInt8) (acc : List Int) (e : l = done ++ (p ++ rest)) (hl : l.length ≤ 1048576) (ha : acc.length ≤ 3)
    (hbad : (rdIn (-1000000000) 1000000000 p).2 = false ∨ acc.length = 3 → P (0, 0, 0, false))
    (next : (rdIn (-1000000000) 1000000000 p).2 = true → acc.length < 3 → W (fun k m => (spec_ReadCourse.cs k m).1 (bs l) 0 0 0 (acc ++ [(rdIn (-1000000000) 1000000000 p).1]) ((done.length + p.length + 1 : Nat) : Int) ((done.length + p.length + 1 : Nat) : Int)) P) :
    W (fun k m => (spec_ReadCourse.cs k m).2 (bs l) 0 0 0 acc (done.length : Int) ((done.length + p.length : Nat) : Int)) P := by
  have hlen : l.length = done.length + (p.length + rest.length) := by rw [e]; simp
  have hcut : sCut (bs l) (done.length : Int) ((done.length + p.length : Nat) : Int) = bs p := by
    rw [cut_bs, e, ← List.append_assoc, List.take_append_of_le_length (by simp), List.take_of_length_le (by simp), List.drop_left]
  refine spec_ReadCourse.w1 ?_
  rw [len_bs, hcut]
  refine W.t (by omega) (W.t (by omega) (W.t (by omega) ?_))
  refine W.bindE (l01Value_w p) ?_
  refine W.ni (fun h => W.ret (hbad (.inl h))) (fun h => ?_)
  refine W.di (fun h3 => W.ret (hbad (.inr (by omega)))) (fun h3 => ?_)
  refine W.t (by omega) ?_
  rw [w64 (by omega) (by omega)]
  exact next h (by omega)
theorem rc_w (l : List UInt8) (hl : l.length ≤ 1048576) : ∀ (rest p done : List UInt8) (acc : List Int), l = done ++ (p ++ rest) → (47 : UInt8) ∉ p → acc.length ≤ 3 →
    W (fun k m => (spec_ReadCourse.cs k m).1 (bs l) 0 0 0 acc (done.length : Int) ((done.length + p.length : Nat) : Int)) (· = R3 acc (pcs 47 (p ++ rest))) := by
  intro rest
  induction rest with
  | nil =>
    intro p done acc e hp ha
    have hlen : l.length = done.length + p.length := by rw [e]; simp
    refine spec_ReadCourse.w0 ?_
    rw [len_bs]
    refine W.dt (by omega) (W.de (by omega) ?_)
    rw [List.append_nil, pcs_free hp]
    refine piece_w l done p [] acc e hl ha (fun h => ?_) (fun hok h3 => ?_)
    · unfold R3
      rw [if_neg]
      rintro ⟨h1, h2⟩
      rcases h with h | h
      · have := h1 p (by simp); rw [h] at this; cases this
      · simp at h2; omega
    · refine spec_ReadCourse.w0 ?_
      rw [len_bs]
      refine W.de (by omega) ?_
      have hR : R3 acc [p] = res3 (acc ++ [(rdIn (-1000000000) 1000000000 p).1]) := by
        unfold R3
        by_cases h : acc.length + 1 = 3
        · rw [if_pos ⟨fun q hq => by simp at hq; rw [hq]; exact hok, by simpa using h⟩]; rfl
        · rw [if_neg fun h2 => h (by simpa using h2.2), res3_ne (by simpa using h)]
      rw [hR]
      refine W.ndi (fun h => W.ret ?_) (fun h => ?_)
      · rw [res3_ne]; intro h2; exact h (by rw [h2]; rfl)
      · generalize acc ++ [(rdIn (-1000000000) 1000000000 p).1] = zs at *
        match zs, h with
        | [a, b, c], _ =>
          refine W.t (by decide) (W.t (by simp) (W.t (by decide) (W.t (by simp) (W.t (by decide) (W.t (by simp) ?_)))))
          refine W.bindN (fun k => l05Small_eq' k _ _ _) ?_
          have e0 : rd 0 [a, b, c] 0 = a := rfl
          have e1 : rd 0 [a, b, c] 1 = b := rfl
          have e2 : rd 0 [a, b, c] 2 = c := rfl
          rw [e0, e1, e2]
          refine W.ni (fun h => W.ret ?_) (fun h => W.ret ?_) <;> simp [res3, h]
        | [], h => simp at h
        | [a], h => simp at h
        | [a, b], h => simp at h
        | a :: b :: c :: d :: r, h => simp at h; try omega
  | cons c rest ih =>
    intro p done acc e hp ha
    have hlen : l.length = done.length + (p.length + (rest.length + 1)) := by rw [e]; simp
    have hi : done.length + p.length < l.length := by omega
    have hc : l[done.length + p.length] = c := by
      simp only [e]
      rw [List.getElem_append_right (by omega)]
      simp
    refine spec_ReadCourse.w0 ?_
    rw [len_bs, at_bs l _ hi, hc]
    refine W.dt (by omega) (W.dt (by omega) (W.t (by omega) (W.t (by omega) ?_)))
    refine W.ndi (fun h => ?_) (fun h => ?_)
    · have hc47 : c ≠ 47 := fun h2 => h (by rw [h2]; rfl)
      have := ih (p ++ [c]) done acc (by rw [e]; simp) (pcs_more p rest hc47 hp) ha
      have e2 : ((done.length + (p ++ [c]).length : Nat) : Int) = ((done.length + p.length : Nat) : Int) + 1 := by simp; omega
      have e3 : p ++ [c] ++ rest = p ++ c :: rest := by simp
      rw [e2, e3] at this
      rw [w64 (by omega) (by omega)]
      exact this
    · have hc47 : c = 47 := by
        have h2 : c.toNat = 47 := by omega
        exact UInt8.toNat_inj.1 h2
      subst hc47
      rw [pcs_cut rest hp]
      have hRbad : (rdIn (-1000000000) 1000000000 p).2 = false ∨ acc.length = 3 → (0, 0, 0, false) = R3 acc (p :: pcs 47 rest) := fun h => by
        unfold R3
        rw [if_neg]
        rintro ⟨h1, h2⟩
        rcases h with h | h
        · have := h1 p (by simp); rw [h] at this; cases this
        · simp at h2; omega
      refine piece_w l done p (47 :: rest) acc e hl ha hRbad (fun hok h3 => ?_)
      have hR : R3 acc (p :: pcs 47 rest) = R3 (acc ++ [(rdIn (-1000000000) 1000000000 p).1]) (pcs 47 rest) := by
        unfold R3
        have e1 : (oks (-1000000000) 1000000000 (p :: pcs 47 rest) ∧ acc.length + (p :: pcs 47 rest).length = 3) ↔ (oks (-1000000000) 1000000000 (pcs 47 rest) ∧ (acc ++ [(rdIn (-1000000000) 1000000000 p).1]).length + (pcs 47 rest).length = 3) := by
          constructor
          · rintro ⟨h1, h2⟩
            exact ⟨fun q hq => h1 q (List.mem_cons_of_mem _ hq), by simp at h2 ⊢; omega⟩
          · rintro ⟨h1, h2⟩
            refine ⟨fun q hq => ?_, by simp at h2 ⊢; omega⟩
            rcases List.mem_cons.1 hq with rfl | hq
            · exact hok
            · exact h1 q hq
        by_cases h : oks (-1000000000) 1000000000 (pcs 47 rest) ∧ (acc ++ [(rdIn (-1000000000) 1000000000 p).1]).length + (pcs 47 rest).length = 3
        · rw [if_pos (e1.2 h), if_pos h]; simp [vals]
        · rw [if_neg (fun h2 => h (e1.1 h2)), if_neg h]
      rw [hR]
      have := ih [] (done ++ (p ++ [47])) (acc ++ [(rdIn (-1000000000) 1000000000 p).1]) (by rw [e]; simp) (by simp) (by simp; omega)
      simpa [Nat.add_assoc] using this
theorem specRead_w (l : List UInt8) (hl : l.length ≤ 1048576) : W (fun k _ => spec_ReadCourse.f k (bs l)) (· = R3 [] (pcs 47 l)) :=
  spec_ReadCourse.w (rc_w l hl l [] [] [] rfl (by simp) (by simp))
end Go.Proofs.YtigkpbnhdkdliaaDoor.R
