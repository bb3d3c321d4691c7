/- What the rows' own helpers answer: copies, comparisons, marks. Written by wip/rev/genfr.py. -/
import Derived.Test.YtigkpbnhdkdliaaXFnExactOffsetsAfterO
namespace Go.Proofs.Ytigkpbnhdkdliaa.R
open Go.Rv
set_option linter.unusedVariables false
set_option linter.unusedSimpArgs false
set_option maxRecDepth 100000
theorem eqInt64S_w (xs : List Int) (hl : xs.length ≤ 1048576) : W (fun k _ => laws_eqInt64S.f k xs xs) (· = true) := by
  have key : ∀ (rest pre : List Int), xs = pre ++ rest → W (fun k m => (laws_eqInt64S.cs k m) xs xs (pre.length : Int)) (· = true) := by
    intro rest
    induction rest with
    | nil => intro pre e; exact laws_eqInt64S.w0 (W.de (by rw [e]; simp) (W.ret rfl))
    | cons x rest ih =>
      intro pre e
      have hlen : xs.length = pre.length + (rest.length + 1) := by rw [e]; simp
      have hx : rd 0 xs (pre.length : Int) = x := by rw [e]; exact rd_mid _ _ _
      have := ih (pre ++ [x]) (by simp [e])
      refine laws_eqInt64S.w0 (W.dt (by omega) (W.t (by omega) (W.t (by omega) (W.t (by omega) (W.t (by omega) ?_)))))
      rw [hx, w64 (by omega) (by omega)]
      exact W.nde rfl (by simpa using this)
  exact laws_eqInt64S.w (W.nde rfl (key xs [] rfl))
def mkInt64S : Int → List Int → List Int
  | _, [] => []
  | a, _ :: r => a :: mkInt64S (a + 1) r
theorem mkInt64S_length : ∀ (xs : List Int) (a : Int), (mkInt64S a xs).length = xs.length
  | [], _ => rfl
  | _ :: r, a => by simp [mkInt64S, mkInt64S_length r]
theorem mkInt64S_snoc : ∀ (pre : List Int) (a : Int) (x : Int), mkInt64S a (pre ++ [x]) = mkInt64S a pre ++ mkInt64S (a + 1 * (pre.length : Int)) [x]
  | [], a, x => by simp [mkInt64S]
  | y :: r, a, x => by
    simp only [List.cons_append, mkInt64S, mkInt64S_snoc r, List.length_cons]
    rw [show a + 1 + 1 * (r.length : Int) = a + 1 * ((r.length + 1 : Nat) : Int) by omega]
theorem markInt64S_w (xs : List Int) (a : Int) (hl : xs.length ≤ 1048576) (ha : 0 ≤ a ∧ a ≤ 1000000000000) : W (fun k _ => laws_markInt64S.f k xs a) (· = (a + 1 * (xs.length : Int), mkInt64S a xs)) := by
  have key : ∀ (rest pre : List Int), xs = pre ++ rest → W (fun k m => (laws_markInt64S.cs k m) (mkInt64S a pre ++ rest) (a + 1 * (pre.length : Int)) (pre.length : Int)) (· = (a + 1 * (xs.length : Int), mkInt64S a xs)) := by
    intro rest
    induction rest with
    | nil =>
      intro pre e
      have e : xs = pre := by simpa using e
      have hml := mkInt64S_length pre a
      exact laws_markInt64S.w0 (W.de (by simp; omega) (W.ret (by rw [e]; simp)))
    | cons x rest ih =>
      intro pre e
      have hlen : xs.length = pre.length + (rest.length + 1) := by rw [e]; simp
      have hml := mkInt64S_length pre a
      have hn : (mkInt64S a pre ++ x :: rest).length = pre.length + (rest.length + 1) := by simp [hml]
      have hr : ∀ v, rd 0 ((mkInt64S a pre ++ x :: rest).set pre.length v) (pre.length : Int) = v := fun v => by
        rw [← hml, List.set_append_right _ _ (Nat.le_refl _)]; simp only [Nat.sub_self, List.set_cons_zero]; exact rd_mid _ _ _
      have hs : ∀ v, (mkInt64S a pre ++ x :: rest).set pre.length v = mkInt64S a pre ++ [v] ++ rest := fun v => by
        rw [← hml, List.set_append_right _ _ (Nat.le_refl _)]; simp
      have := ih (pre ++ [x]) (by simp [e])
      rw [mkInt64S_snoc] at this
      refine laws_markInt64S.w0 (W.dt (by omega) ?_)
      simp only [Int.toNat_natCast, hr, List.set_set, List.length_set]
      rw [w64 (i := a + 1 * (pre.length : Int) + 1) (by omega) (by omega), w64 (i := (pre.length : Int) + 1) (by omega) (by omega)]
      simp only [hs]
      have hb : 0 ≤ (pre.length : Int) ∧ (pre.length : Int) < ((mkInt64S a pre ++ x :: rest).length : Int) := by omega
      simp only [hb.1, hb.2, if_true]
      have e2 : a + 1 * ((pre ++ [x]).length : Int) = a + 1 * (pre.length : Int) + 1 := by simp; omega
      rw [e2, show ((pre ++ [x]).length : Int) = (pre.length : Int) + 1 by simp] at this
      simpa [mkInt64S, Int.add_assoc] using this
  refine laws_markInt64S.w ?_
  simpa [mkInt64S] using key xs [] rfl
theorem heldInt64S_w (xs : List Int) (a : Int) (hl : xs.length ≤ 1048576) (ha : 0 ≤ a ∧ a ≤ 1000000000000) : W (fun k _ => laws_heldInt64S.f k (mkInt64S a xs) a) (· = a + 1 * (xs.length : Int)) := by
  have key : ∀ (rest pre : List Int), xs = pre ++ rest → W (fun k m => (laws_heldInt64S.cs k m) (mkInt64S a xs) (a + 1 * (pre.length : Int)) (pre.length : Int)) (· = a + 1 * (xs.length : Int)) := by
    intro rest
    induction rest with
    | nil =>
      intro pre e
      have e : xs = pre := by simpa using e
      have hml := mkInt64S_length xs a
      exact laws_heldInt64S.w0 (W.de (by rw [hml, e]; omega) (W.ret (by rw [e])))
    | cons x rest ih =>
      intro pre e
      have hlen : xs.length = pre.length + (rest.length + 1) := by rw [e]; simp
      have hml := mkInt64S_length xs a
      have hml' := mkInt64S_length pre a
      have hq : ∀ (r p : List Int) (b : Int), ∃ z, mkInt64S b (p ++ x :: r) = mkInt64S b p ++ mkInt64S (b + 1 * (p.length : Int)) [x] ++ z := fun r p => by
        induction p with
        | nil => intro b; exact ⟨_, by simp [mkInt64S]; rfl⟩
        | cons y p ihp =>
          intro b
          obtain ⟨z, hz⟩ := ihp (b + 1)
          refine ⟨z, ?_⟩
          simp only [List.cons_append, mkInt64S, hz, List.length_cons]
          rw [show b + 1 + 1 * (p.length : Int) = b + 1 * ((p.length + 1 : Nat) : Int) by omega]
      obtain ⟨z, hz⟩ := hq rest pre a
      rw [← e] at hz
      have hx : rd 0 (mkInt64S a xs) (pre.length : Int) = (a + 1 * (pre.length : Int)) := by
        rw [hz, ← hml', List.append_assoc]; simp only [mkInt64S, List.cons_append, List.nil_append]; rw [rd_mid, hml']
      have := ih (pre ++ [x]) (by simp [e])
      refine laws_heldInt64S.w0 (W.dt (by omega) ?_)
      rw [hx]
      rw [w64 (i := a + 1 * (pre.length : Int) + 1) (by omega) (by omega), w64 (i := (pre.length : Int) + 1) (by omega) (by omega)]
      have hb : 0 ≤ (pre.length : Int) ∧ (pre.length : Int) < ((mkInt64S a xs).length : Int) := by omega
      simp only [hb.1, hb.2, if_true]
      have e2 : a + 1 * ((pre ++ [x]).length : Int) = a + 1 * (pre.length : Int) + 1 := by simp; omega
      rw [e2, show ((pre ++ [x]).length : Int) = (pre.length : Int) + 1 by simp] at this
      exact W.nde (by first | trivial | omega) (this)
  refine laws_heldInt64S.w ?_
  simpa using key xs [] rfl
end Go.Proofs.Ytigkpbnhdkdliaa.R
