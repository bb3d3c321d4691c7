/- What the rows' own helpers answer: copies, comparisons, marks. Written by wip/rev/genfr.py. -/
import Derived.Test.YtgknckbplbldbaaDoorXFnExactReadAxisO
namespace Go.Proofs.YtgknckbplbldbaaDoor.R
open Go.Rv
set_option linter.unusedVariables false
set_option linter.unusedSimpArgs false
set_option maxRecDepth 100000
theorem eqCurveS_w (xs : List (Int × Int × Int)) (hl : xs.length ≤ 1048576) : W (fun k _ => laws_eqCurveS.f k xs xs) (· = true) := by
  have key : ∀ (rest pre : List (Int × Int × Int)), xs = pre ++ rest → W (fun k m => (laws_eqCurveS.cs k m) xs xs (pre.length : Int)) (· = true) := by
    intro rest
    induction rest with
    | nil => intro pre e; exact laws_eqCurveS.w0 (W.de (by rw [e]; simp) (W.ret rfl))
    | cons x rest ih =>
      intro pre e
      have hlen : xs.length = pre.length + (rest.length + 1) := by rw [e]; simp
      have hx : rd (0, (0, 0)) xs (pre.length : Int) = x := by rw [e]; exact rd_mid _ _ _
      have := ih (pre ++ [x]) (by simp [e])
      refine laws_eqCurveS.w0 (W.dt (by omega) (W.t (by omega) (W.t (by omega) (W.t (by omega) (W.t (by omega) ?_)))))
      rw [hx, w64 (by omega) (by omega)]
      refine W.bindN (t := true) (fun k => by simp [laws_eqCurve.f]) (W.ne rfl (by simpa using this))
  exact laws_eqCurveS.w (W.nde rfl (key xs [] rfl))
def mkCurveS : Int → List (Int × Int × Int) → List (Int × Int × Int)
  | _, [] => []
  | a, _ :: r => (a, (a + 1, a + 2)) :: mkCurveS (a + 3) r
theorem mkCurveS_length : ∀ (xs : List (Int × Int × Int)) (a : Int), (mkCurveS a xs).length = xs.length
  | [], _ => rfl
  | _ :: r, a => by simp [mkCurveS, mkCurveS_length r]
theorem mkCurveS_snoc : ∀ (pre : List (Int × Int × Int)) (a : Int) (x : Int × Int × Int), mkCurveS a (pre ++ [x]) = mkCurveS a pre ++ mkCurveS (a + 3 * (pre.length : Int)) [x]
  | [], a, x => by simp [mkCurveS]
  | y :: r, a, x => by
    simp only [List.cons_append, mkCurveS, mkCurveS_snoc r, List.length_cons]
    rw [show a + 3 + 3 * (r.length : Int) = a + 3 * ((r.length + 1 : Nat) : Int) by omega]
theorem markCurveS_w (xs : List (Int × Int × Int)) (a : Int) (hl : xs.length ≤ 1048576) (ha : 0 ≤ a ∧ a ≤ 1000000000000) : W (fun k _ => laws_markCurveS.f k xs a) (· = (a + 3 * (xs.length : Int), mkCurveS a xs)) := by
  have key : ∀ (rest pre : List (Int × Int × Int)), xs = pre ++ rest → W (fun k m => (laws_markCurveS.cs k m) (mkCurveS a pre ++ rest) (a + 3 * (pre.length : Int)) (pre.length : Int)) (· = (a + 3 * (xs.length : Int), mkCurveS a xs)) := by
    intro rest
    induction rest with
    | nil =>
      intro pre e
      have e : xs = pre := by simpa using e
      have hml := mkCurveS_length pre a
      exact laws_markCurveS.w0 (W.de (by simp; omega) (W.ret (by rw [e]; simp)))
    | cons x rest ih =>
      intro pre e
      have hlen : xs.length = pre.length + (rest.length + 1) := by rw [e]; simp
      have hml := mkCurveS_length pre a
      have hn : (mkCurveS a pre ++ x :: rest).length = pre.length + (rest.length + 1) := by simp [hml]
      have hr : ∀ v, rd (0, (0, 0)) ((mkCurveS a pre ++ x :: rest).set pre.length v) (pre.length : Int) = v := fun v => by
        rw [← hml, List.set_append_right _ _ (Nat.le_refl _)]; simp only [Nat.sub_self, List.set_cons_zero]; exact rd_mid _ _ _
      have hs : ∀ v, (mkCurveS a pre ++ x :: rest).set pre.length v = mkCurveS a pre ++ [v] ++ rest := fun v => by
        rw [← hml, List.set_append_right _ _ (Nat.le_refl _)]; simp
      have := ih (pre ++ [x]) (by simp [e])
      rw [mkCurveS_snoc] at this
      refine laws_markCurveS.w0 (W.dt (by omega) ?_)
      simp only [Int.toNat_natCast, hr, List.set_set, List.length_set]
      rw [w64 (i := a + 3 * (pre.length : Int) + 1) (by omega) (by omega), w64 (i := a + 3 * (pre.length : Int) + 1 + 1) (by omega) (by omega), w64 (i := a + 3 * (pre.length : Int) + 1 + 1 + 1) (by omega) (by omega), w64 (i := (pre.length : Int) + 1) (by omega) (by omega)]
      simp only [hs]
      have hb : 0 ≤ (pre.length : Int) ∧ (pre.length : Int) < ((mkCurveS a pre ++ x :: rest).length : Int) := by omega
      simp only [hb.1, hb.2, if_true]
      have e2 : a + 3 * ((pre ++ [x]).length : Int) = a + 3 * (pre.length : Int) + 1 + 1 + 1 := by simp; omega
      rw [e2, show ((pre ++ [x]).length : Int) = (pre.length : Int) + 1 by simp] at this
      simpa [mkCurveS, Int.add_assoc] using this
  refine laws_markCurveS.w ?_
  simpa [mkCurveS] using key xs [] rfl
theorem heldCurveS_w (xs : List (Int × Int × Int)) (a : Int) (hl : xs.length ≤ 1048576) (ha : 0 ≤ a ∧ a ≤ 1000000000000) : W (fun k _ => laws_heldCurveS.f k (mkCurveS a xs) a) (· = a + 3 * (xs.length : Int)) := by
  have key : ∀ (rest pre : List (Int × Int × Int)), xs = pre ++ rest → W (fun k m => (laws_heldCurveS.cs k m) (mkCurveS a xs) (a + 3 * (pre.length : Int)) (pre.length : Int)) (· = a + 3 * (xs.length : Int)) := by
    intro rest
    induction rest with
    | nil =>
      intro pre e
      have e : xs = pre := by simpa using e
      have hml := mkCurveS_length xs a
      exact laws_heldCurveS.w0 (W.de (by rw [hml, e]; omega) (W.ret (by rw [e])))
    | cons x rest ih =>
      intro pre e
      have hlen : xs.length = pre.length + (rest.length + 1) := by rw [e]; simp
      have hml := mkCurveS_length xs a
      have hml' := mkCurveS_length pre a
      have hq : ∀ (r p : List (Int × Int × Int)) (b : Int), ∃ z, mkCurveS b (p ++ x :: r) = mkCurveS b p ++ mkCurveS (b + 3 * (p.length : Int)) [x] ++ z := fun r p => by
        induction p with
        | nil => intro b; exact ⟨_, by simp [mkCurveS]; rfl⟩
        | cons y p ihp =>
          intro b
          obtain ⟨z, hz⟩ := ihp (b + 3)
          refine ⟨z, ?_⟩
          simp only [List.cons_append, mkCurveS, hz, List.length_cons]
          rw [show b + 3 + 3 * (p.length : Int) = b + 3 * ((p.length + 1 : Nat) : Int) by omega]
      obtain ⟨z, hz⟩ := hq rest pre a
      rw [← e] at hz
      have hx : rd (0, (0, 0)) (mkCurveS a xs) (pre.length : Int) = ((a + 3 * (pre.length : Int)), ((a + 3 * (pre.length : Int)) + 1, (a + 3 * (pre.length : Int)) + 2)) := by
        rw [hz, ← hml', List.append_assoc]; simp only [mkCurveS, List.cons_append, List.nil_append]; rw [rd_mid, hml']
      have := ih (pre ++ [x]) (by simp [e])
      refine laws_heldCurveS.w0 (W.dt (by omega) ?_)
      rw [hx]
      rw [w64 (i := a + 3 * (pre.length : Int) + 1) (by omega) (by omega), w64 (i := a + 3 * (pre.length : Int) + 1 + 1) (by omega) (by omega), w64 (i := a + 3 * (pre.length : Int) + 1 + 1 + 1) (by omega) (by omega), w64 (i := (pre.length : Int) + 1) (by omega) (by omega)]
      have hb : 0 ≤ (pre.length : Int) ∧ (pre.length : Int) < ((mkCurveS a xs).length : Int) := by omega
      simp only [hb.1, hb.2, if_true]
      have e2 : a + 3 * ((pre ++ [x]).length : Int) = a + 3 * (pre.length : Int) + 1 + 1 + 1 := by simp; omega
      rw [e2, show ((pre ++ [x]).length : Int) = (pre.length : Int) + 1 by simp] at this
      exact W.nde (by first | trivial | omega) (W.nde (by first | trivial | omega) (W.nde (by first | trivial | omega) (this)))
  refine laws_heldCurveS.w ?_
  simpa using key xs [] rfl
end Go.Proofs.YtgknckbplbldbaaDoor.R
