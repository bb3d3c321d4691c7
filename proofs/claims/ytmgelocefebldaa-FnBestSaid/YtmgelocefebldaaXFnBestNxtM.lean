/- The reference's draw of a tube: it is one. -/
import Derived.Test.YtmgelocefebldaaXFnBestRng
import Derived.Test.YtmgelocefebldaaXFnBestPut
namespace Go.Proofs.Ytmgelocefebldaa.R
open Go.Rv Go.Rv.Ax
set_option linter.unusedVariables false
set_option linter.unusedSimpArgs false
theorem in16 {a : Int} (h : 0 ≤ a ∧ a ≤ 15) : ∃ n ∈ List.range 16, a = (n : Int) := ⟨a.toNat, by rw [List.mem_range]; omega, by omega⟩
theorem follow_ok : ((List.range 16).all fun a => ([2, 5, 8, 11, 14] : List Int).all fun d => !meets (a : Int) (((a : Int) + d).tmod 16)) = true := by decide
theorem follow {a d : Int} (ha : 0 ≤ a ∧ a ≤ 15) (hd : d ∈ ([2, 5, 8, 11, 14] : List Int)) : meets a ((a + d).tmod 16) = false := by
  obtain ⟨n, hn, rfl⟩ := in16 ha
  have := List.all_eq_true.1 (List.all_eq_true.1 follow_ok n hn) d hd
  simpa using this
theorem specNextM_w (a : Int) (ha : 0 ≤ a ∧ a ≤ 15) : W (fun k _ => spec_l03Next.f k a) (fun l => 0 < l.length ∧ ∀ y ∈ l, (0 ≤ y ∧ y ≤ 15) ∧ meets a y = false) := by
  refine spec_l03Next.w ?_
  have st : ∀ d ∈ ([2, 5, 8, 11, 14] : List Int), 0 ≤ d ∧ d ≤ 14 := by simp
  have key : ∀ (ps pre out : List Int), ([2, 5, 8, 11, 14] : List Int) = pre ++ ps → out.length ≤ pre.length → (0 < pre.length → 0 < out.length) → (∀ y ∈ out, (0 ≤ y ∧ y ≤ 15) ∧ meets a y = false) → W (fun k m => (spec_l03Next.cs k m) a out [2, 5, 8, 11, 14] (pre.length : Int)) (fun l => 0 < l.length ∧ ∀ y ∈ l, (0 ≤ y ∧ y ≤ 15) ∧ meets a y = false) := by
    intro ps
    induction ps with
    | nil =>
      intro pre out e ho hp hm
      have hl := congrArg List.length e
      simp at hl
      exact spec_l03Next.w0 (W.de (by simp only [List.length_cons, List.length_nil]; omega) (W.ret ⟨hp (by omega), hm⟩))
    | cons p ps ih =>
      intro pre out e ho hp hm
      have hl := congrArg List.length e
      simp at hl
      have hx : rd 0 ([2, 5, 8, 11, 14] : List Int) (pre.length : Int) = p := by rw [e]; exact rd_mid _ _ _
      have hpm : p ∈ ([2, 5, 8, 11, 14] : List Int) := by rw [e]; simp
      have hpp := st p hpm
      refine spec_l03Next.w0 (W.dt (by simp only [List.length_cons, List.length_nil]; omega) (W.t (by omega) (W.t (by simp only [List.length_cons, List.length_nil]; omega) (W.e (by omega) ?_))))
      rw [hx, w64 (i := a + p) (by omega) (by omega), w64 (i := (pre.length : Int) + 1) (by omega) (by omega)]
      have hmod : 0 ≤ (a + p).tmod 16 ∧ (a + p).tmod 16 ≤ 15 := by
        rw [Int.tmod_eq_emod_of_nonneg (by omega)]; omega
      refine W.bind (put_w out _ (by omega)) fun r hr => ?_
      have hmem : (a + p).tmod 16 ∈ r := (hr.2 _).2 (.inl rfl)
      have := ih (pre ++ [p]) r (by rw [e]; simp) (by simp; omega) (fun _ => List.length_pos_of_mem hmem) (fun y hy => by
        rcases (hr.2 y).1 hy with rfl | hy
        · exact ⟨hmod, follow ha hpm⟩
        · exact hm y hy)
      simpa using this
  exact key _ [] [] rfl (by simp) (by simp) (by simp)
def lastOr : Option Int → List Ri → Option Int
  | q, [] => q
  | _, r :: t => lastOr (some r.2) t
theorem lastOr_snoc : ∀ (t : List Ri) (q : Option Int) (r : Ri), lastOr q (t ++ [r]) = some r.2
  | [], _, _ => rfl
  | _ :: t, _, r => lastOr_snoc t _ r
theorem chn_snoc : ∀ (t : List Ri) (q : Option Int) (r : Ri), chn q t = true → ringB r.1 r.2 = true → mtk (lastOr q t) r.2 = true → chn q (t ++ [r]) = true
  | [], q, r, _, hr, hm => by
    rw [List.nil_append, chn_cons, hr]
    have hm : mtk q r.2 = true := hm
    rw [hm]; rfl
  | x :: t, q, r, h, hr, hm => by
    rw [List.cons_append, chn_cons]
    rw [chn_cons, Bool.and_eq_true, Bool.and_eq_true] at h
    rw [h.1, h.2.1, chn_snoc t _ r h.2.2 hr hm]; rfl
end Go.Proofs.Ytmgelocefebldaa.R
