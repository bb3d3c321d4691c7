/- The reference's draw of a tube: it is one. -/
import Derived.Test.YtmgelocefebldaaGreatDoorXFnTubesRng
import Derived.Test.YtmgelocefebldaaGreatDoorXFnTubesPut
import Derived.Test.YtmgelocefebldaaGreatDoorXFnTubesSrcA
namespace Go.Proofs.YtmgelocefebldaaGreatDoor.R
open Go.Rv Go.Rv.Ax
set_option linter.unusedVariables false
set_option linter.unusedSimpArgs false
theorem in16 {a : Int} (h : 0 ≤ a ∧ a ≤ 15) : ∃ n ∈ List.range 16, a = (n : Int) := ⟨a.toNat, by rw [List.mem_range]; omega, by omega⟩
theorem follow_ok : ((List.range 16).all fun a => ([2, 5, 8, 11, 14] : List Int).all fun d => !meets (a : Int) (((a : Int) + d).tmod 16)) = true := by decide
theorem follow {a d : Int} (ha : 0 ≤ a ∧ a ≤ 15) (hd : d ∈ ([2, 5, 8, 11, 14] : List Int)) : meets a ((a + d).tmod 16) = false := by
  obtain ⟨n, hn, rfl⟩ := in16 ha
  have := List.all_eq_true.1 (List.all_eq_true.1 follow_ok n hn) d hd
  simpa using this
theorem specNextM_w (a : Int) (ha : 0 ≤ a ∧ a ≤ 15) : W (fun k _ => spec_l03Next.f k a) (fun l => 0 < l.length ∧ ∀ y ∈ l, (0 ≤ y ∧ y ≤ 15) ∧ meets a y = false) := by
  refine spec_l03Next.w ?_
  have st : ∀ d ∈ ([2, 5, 8, 11, 14] : List Int), 0 ≤ d ∧ d ≤ 14 := by simp
  have key : ∀ (ps pre out : List Int), ([2, 5, 8, 11, 14] : List Int) = pre ++ ps → out.length ≤ pre.length → (0 < pre.length → 0 < out.length) → (∀ y ∈ out, (0 ≤ y ∧ y ≤ 15) ∧ meets a y = false) → W (fun k m => (spec_l03Next.cs k m) a out [2, 5, 8, 11, 14] (pre.length : Int)) (fun l => 0 < l.length ∧ ∀ y ∈ l, (0 ≤ y ∧ y ≤ 15) ∧ meets a y = false) := by
    intro ps
    induction ps with
    | nil =>
      intro pre out e ho hp hm
      have hl := congrArg List.length e
      simp at hl
      exact spec_l03Next.w0 (W.de (by simp only [List.length_cons, List.length_nil]; omega) (W.ret ⟨hp (by omega), hm⟩))
    | cons p ps ih =>
      intro pre out e ho hp hm
      have hl := congrArg List.length e
      simp at hl
      have hx : rd 0 ([2, 5, 8, 11, 14] : List Int) (pre.length : Int) = p := by rw [e]; exact rd_mid _ _ _
      have hpm : p ∈ ([2, 5, 8, 11, 14] : List Int) := by rw [e]; simp
      have hpp := st p hpm
      refine spec_l03Next.w0 (W.dt (by simp only [List.length_cons, List.length_nil]; omega) (W.t (by omega) (W.t (by simp only [List.length_cons, List.length_nil]; omega) (W.e (by omega) ?_))))
      rw [hx, w64 (i := a + p) (by omega) (by omega), w64 (i := (pre.length : Int) + 1) (by omega) (by omega)]
      have hmod : 0 ≤ (a + p).tmod 16 ∧ (a + p).tmod 16 ≤ 15 := by
        rw [Int.tmod_eq_emod_of_nonneg (by omega)]; omega
      refine W.bind (put_w out _ (by omega)) fun r hr => ?_
      have hmem : (a + p).tmod 16 ∈ r := (hr.2 _).2 (.inl rfl)
      have := ih (pre ++ [p]) r (by rw [e]; simp) (by simp; omega) (fun _ => List.length_pos_of_mem hmem) (fun y hy => by
        rcases (hr.2 y).1 hy with rfl | hy
        · exact ⟨hmod, follow ha hpm⟩
        · exact hm y hy)
      simpa using this
  exact key _ [] [] rfl (by simp) (by simp) (by simp)
def lastOr : Option Int → List Ri → Option Int
  | q, [] => q
  | _, r :: t => lastOr (some r.2) t
theorem lastOr_snoc : ∀ (t : List Ri) (q : Option Int) (r : Ri), lastOr q (t ++ [r]) = some r.2
  | [], _, _ => rfl
  | _ :: t, _, r => lastOr_snoc t _ r
theorem chn_snoc : ∀ (t : List Ri) (q : Option Int) (r : Ri), chn q t = true → ringB r.1 r.2 = true → mtk (lastOr q t) r.2 = true → chn q (t ++ [r]) = true
  | [], q, r, _, hr, hm => by
    rw [List.nil_append, chn_cons, hr]
    have hm : mtk q r.2 = true := hm
    rw [hm]; rfl
  | x :: t, q, r, h, hr, hm => by
    rw [List.cons_append, chn_cons]
    rw [chn_cons, Bool.and_eq_true, Bool.and_eq_true] at h
    rw [h.1, h.2.1, chn_snoc t _ r h.2.2 hr hm]; rfl
theorem b10TubeM_w {c : List Int} (h : ∀ b ∈ c, 0 ≤ b ∧ b ≤ 255) : W (fun k _ => spec_B10Tube.f k c) (fun t => tubeB t = true ∧ 1 ≤ t.length ∧ t.length ≤ 6) := by
  have draw : ∀ (n N : Nat) (t : List Ri) (c : List Int) (a s m key : Int), t.length + n = N → N ≤ 100 → Sr c a m → m + 10 * n ≤ 1000000 → 0 ≤ key ∧ key ≤ 15 → chn none t = true → (∀ y, meets key y = false → mtk (lastOr none t) y = true) → W (fun k m => (spec_l03DrawOk.cs k m) c a s (n : Int) key t) (fun r => r.1.length = N ∧ chn none r.1 = true) := by
    intro n
    induction n with
    | zero =>
      intro N t c a s m key hl hN g hm hk ht hq
      exact spec_l03DrawOk.w0 (W.de (by omega) (W.ret ⟨by simp only; omega, ht⟩))
    | succ n ih =>
      intro N t c a s m key hl hN g hm hk ht hq
      have hm0 : 0 ≤ m := by have := g.2.1; have := g.2.2; omega
      have htn : t.length + n + 1 = N := by omega
      refine spec_l03DrawOk.w0 (W.dt (by omega) (W.bind (specNextM_w key hk) fun L hL => W.bind (among_w g (by omega) hL.1) ?_))
      rintro ⟨r1, c1, a1, s1⟩ ⟨q1, g1⟩
      refine W.bind (pick_w g1 (by omega)) ?_
      rintro ⟨r2, c2, a2, s2⟩ ⟨q2, g2⟩
      dsimp only at q1 q2 g1 g2 ⊢
      have h1 := hL.2 r1 q1
      refine W.bindN (t := if 1 < r2 then 1 else r2) (fun k => by unfold spec_l00Min.f; by_cases h : 1 < r2 <;> simp [h]) (W.t ?_ ?_)
      · have : t.length ≤ 1000000 := by omega
        simp; omega
      rw [w64 (i := ((n + 1 : Nat) : Int) - 1) (by omega) (by omega), show ((n + 1 : Nat) : Int) - 1 = (n : Int) by omega]
      have hring : ringB (if 1 < r2 then 1 else r2) r1 = true := by
        simp only [ringB, Bool.and_eq_true, inR_iff]
        split <;> omega
      exact ih N _ c2 a2 s2 _ r1 (by simp; omega) hN g2 (by omega) h1.1 (chn_snoc t none _ ht hring (hq r1 h1.2)) (fun y hy => by rw [lastOr_snoc]; simp [mtk, hy])
  refine spec_B10Tube.w (W.bind (from_w h) fun t1 g1 => W.bind (pick_w g1 (by omega)) ?_)
  rintro ⟨r1, c1, a1, s1⟩ ⟨q1, g2⟩
  refine W.bind (pick_w g2 (by omega)) ?_
  rintro ⟨r2, c2, a2, s2⟩ ⟨q2, g3⟩
  dsimp only at q1 q2 g2 g3 ⊢
  rw [w64 (i := 1 + r1) (by omega) (by omega)]
  obtain ⟨n, hn⟩ : ∃ n : Nat, 1 + r1 = (n : Int) := ⟨(1 + r1).toNat, by omega⟩
  rw [hn]
  refine W.bind (spec_l03DrawOk.w (draw n n [] c2 a2 s2 _ r2 (by simp) (by omega) g3 (by omega) (by omega) rfl (fun y _ => rfl))) fun r hr => W.ret ⟨?_, by omega, by omega⟩
  unfold tubeB
  rw [hr.2]
  simp; omega
end Go.Proofs.YtmgelocefebldaaGreatDoor.R
