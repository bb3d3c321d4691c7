/- What the rows' own helpers answer: copies, comparisons, marks. Written by wip/rev/genfr.py. -/
import Derived.Test.YtmgelocefebldaaXFnExactBestTubeO
namespace Go.Proofs.Ytmgelocefebldaa.R
open Go.Rv
set_option linter.unusedVariables false
set_option linter.unusedSimpArgs false
set_option maxRecDepth 100000
theorem szCurveS_eq (k : Nat) (xs : List (Int × Int × Int)) (a : Int) (h : 0 ≤ a ∧ a ≤ 1000000000000) (hl : xs.length ≤ 9223372036854775807) : laws_szCurveS.f k xs a = some (if a < (xs.length : Int) then -1 else a - (xs.length : Int)) := by
  unfold laws_szCurveS.f; rw [w64 (by omega) (by omega)]
  by_cases hc : a - (xs.length : Int) < 0
  · rw [if_pos (by simpa using hc), if_pos (by omega)]
  · rw [if_neg (by simpa using hc), if_neg (by omega)]
theorem toCurveS_w (xs : List (Int × Int × Int)) (hl : xs.length ≤ 1048576) : W (fun k _ => laws_toCurveS.f k xs) (· = xs) := by
  have key : ∀ (rest pre : List (Int × Int × Int)), xs = pre ++ rest → W (fun k m => (laws_toCurveS.cs k m) xs (pre ++ List.replicate rest.length (0, (0, 0))) (pre.length : Int)) (· = xs) := by
    intro rest
    induction rest with
    | nil => intro pre e; exact laws_toCurveS.w0 (W.de (by rw [e]; simp) (W.ret (by rw [e]; simp)))
    | cons x rest ih =>
      intro pre e
      have hlen : xs.length = pre.length + (rest.length + 1) := by rw [e]; simp
      have hx : rd (0, (0, 0)) xs (pre.length : Int) = x := by rw [e]; exact rd_mid _ _ _
      refine laws_toCurveS.w0 (W.dt (by omega) (W.t (by omega) (W.t (by omega) ?_)))
      rw [hx]
      refine W.bindN (t := x) (fun k => rfl) ?_
      refine W.t (by omega) (W.t (by simp; omega) ?_)
      have := ih (pre ++ [x]) (by simp [e])
      rw [w64 (by omega) (by omega), Int.toNat_natCast, List.set_append_right _ _ (Nat.le_refl _)]
      simpa [List.replicate_succ] using this
  refine laws_toCurveS.w (W.t (by omega) (W.t (by omega) (W.t (by omega) ?_)))
  simpa using key xs [] rfl
theorem eqCurveS_w (xs : List (Int × Int × Int)) (hl : xs.length ≤ 1048576) : W (fun k _ => laws_eqCurveS.f k xs xs) (· = true) := by
  have key : ∀ (rest pre : List (Int × Int × Int)), xs = pre ++ rest → W (fun k m => (laws_eqCurveS.cs k m) xs xs (pre.length : Int)) (· = true) := by
    intro rest
    induction rest with
    | nil => intro pre e; exact laws_eqCurveS.w0 (W.de (by rw [e]; simp) (W.ret rfl))
    | cons x rest ih =>
      intro pre e
      have hlen : xs.length = pre.length + (rest.length + 1) := by rw [e]; simp
      have hx : rd (0, (0, 0)) xs (pre.length : Int) = x := by rw [e]; exact rd_mid _ _ _
      have := ih (pre ++ [x]) (by simp [e])
      refine laws_eqCurveS.w0 (W.dt (by omega) (W.t (by omega) (W.t (by omega) (W.t (by omega) (W.t (by omega) ?_)))))
      rw [hx, w64 (by omega) (by omega)]
      refine W.bindN (t := true) (fun k => by simp [laws_eqCurve.f]) (W.ne rfl (by simpa using this))
  exact laws_eqCurveS.w (W.nde rfl (key xs [] rfl))
def mkCurveS : Int → List (Int × Int × Int) → List (Int × Int × Int)
  | _, [] => []
  | a, _ :: r => (a, (a + 1, a + 2)) :: mkCurveS (a + 3) r
theorem mkCurveS_length : ∀ (xs : List (Int × Int × Int)) (a : Int), (mkCurveS a xs).length = xs.length
  | [], _ => rfl
  | _ :: r, a => by simp [mkCurveS, mkCurveS_length r]
theorem mkCurveS_snoc : ∀ (pre : List (Int × Int × Int)) (a : Int) (x : Int × Int × Int), mkCurveS a (pre ++ [x]) = mkCurveS a pre ++ mkCurveS (a + 3 * (pre.length : Int)) [x]
  | [], a, x => by simp [mkCurveS]
  | y :: r, a, x => by
    simp only [List.cons_append, mkCurveS, mkCurveS_snoc r, List.length_cons]
    rw [show a + 3 + 3 * (r.length : Int) = a + 3 * ((r.length + 1 : Nat) : Int) by omega]
theorem markCurveS_w (xs : List (Int × Int × Int)) (a : Int) (hl : xs.length ≤ 1048576) (ha : 0 ≤ a ∧ a ≤ 1000000000000) : W (fun k _ => laws_markCurveS.f k xs a) (· = (a + 3 * (xs.length : Int), mkCurveS a xs)) := by
  have key : ∀ (rest pre : List (Int × Int × Int)), xs = pre ++ rest → W (fun k m => (laws_markCurveS.cs k m) (mkCurveS a pre ++ rest) (a + 3 * (pre.length : Int)) (pre.length : Int)) (· = (a + 3 * (xs.length : Int), mkCurveS a xs)) := by
    intro rest
    induction rest with
    | nil =>
      intro pre e
      have e : xs = pre := by simpa using e
      have hml := mkCurveS_length pre a
      exact laws_markCurveS.w0 (W.de (by simp; omega) (W.ret (by rw [e]; simp)))
    | cons x rest ih =>
      intro pre e
      have hlen : xs.length = pre.length + (rest.length + 1) := by rw [e]; simp
      have hml := mkCurveS_length pre a
      have hn : (mkCurveS a pre ++ x :: rest).length = pre.length + (rest.length + 1) := by simp [hml]
      have hr : ∀ v, rd (0, (0, 0)) ((mkCurveS a pre ++ x :: rest).set pre.length v) (pre.length : Int) = v := fun v => by
        rw [← hml, List.set_append_right _ _ (Nat.le_refl _)]; simp only [Nat.sub_self, List.set_cons_zero]; exact rd_mid _ _ _
      have hs : ∀ v, (mkCurveS a pre ++ x :: rest).set pre.length v = mkCurveS a pre ++ [v] ++ rest := fun v => by
        rw [← hml, List.set_append_right _ _ (Nat.le_refl _)]; simp
      have := ih (pre ++ [x]) (by simp [e])
      rw [mkCurveS_snoc] at this
      refine laws_markCurveS.w0 (W.dt (by omega) ?_)
      simp only [Int.toNat_natCast, hr, List.set_set, List.length_set]
      rw [w64 (i := a + 3 * (pre.length : Int) + 1) (by omega) (by omega), w64 (i := a + 3 * (pre.length : Int) + 1 + 1) (by omega) (by omega), w64 (i := a + 3 * (pre.length : Int) + 1 + 1 + 1) (by omega) (by omega), w64 (i := (pre.length : Int) + 1) (by omega) (by omega)]
      simp only [hs]
      have hb : 0 ≤ (pre.length : Int) ∧ (pre.length : Int) < ((mkCurveS a pre ++ x :: rest).length : Int) := by omega
      simp only [hb.1, hb.2, if_true]
      have e2 : a + 3 * ((pre ++ [x]).length : Int) = a + 3 * (pre.length : Int) + 1 + 1 + 1 := by simp; omega
      rw [e2, show ((pre ++ [x]).length : Int) = (pre.length : Int) + 1 by simp] at this
      simpa [mkCurveS, Int.add_assoc] using this
  refine laws_markCurveS.w ?_
  simpa [mkCurveS] using key xs [] rfl
theorem eqRingS_w (xs : List (Int × Int)) (hl : xs.length ≤ 1048576) : W (fun k _ => laws_eqRingS.f k xs xs) (· = true) := by
  have key : ∀ (rest pre : List (Int × Int)), xs = pre ++ rest → W (fun k m => (laws_eqRingS.cs k m) xs xs (pre.length : Int)) (· = true) := by
    intro rest
    induction rest with
    | nil => intro pre e; exact laws_eqRingS.w0 (W.de (by rw [e]; simp) (W.ret rfl))
    | cons x rest ih =>
      intro pre e
      have hlen : xs.length = pre.length + (rest.length + 1) := by rw [e]; simp
      have hx : rd (0, 0) xs (pre.length : Int) = x := by rw [e]; exact rd_mid _ _ _
      have := ih (pre ++ [x]) (by simp [e])
      refine laws_eqRingS.w0 (W.dt (by omega) (W.t (by omega) (W.t (by omega) (W.t (by omega) (W.t (by omega) ?_)))))
      rw [hx, w64 (by omega) (by omega)]
      refine W.bindN (t := true) (fun k => by simp [laws_eqRing.f]) (W.ne rfl (by simpa using this))
  exact laws_eqRingS.w (W.nde rfl (key xs [] rfl))
def mkRingS : Int → List (Int × Int) → List (Int × Int)
  | _, [] => []
  | a, _ :: r => (a, a + 1) :: mkRingS (a + 2) r
theorem mkRingS_length : ∀ (xs : List (Int × Int)) (a : Int), (mkRingS a xs).length = xs.length
  | [], _ => rfl
  | _ :: r, a => by simp [mkRingS, mkRingS_length r]
theorem mkRingS_snoc : ∀ (pre : List (Int × Int)) (a : Int) (x : Int × Int), mkRingS a (pre ++ [x]) = mkRingS a pre ++ mkRingS (a + 2 * (pre.length : Int)) [x]
  | [], a, x => by simp [mkRingS]
  | y :: r, a, x => by
    simp only [List.cons_append, mkRingS, mkRingS_snoc r, List.length_cons]
    rw [show a + 2 + 2 * (r.length : Int) = a + 2 * ((r.length + 1 : Nat) : Int) by omega]
theorem markRingS_w (xs : List (Int × Int)) (a : Int) (hl : xs.length ≤ 1048576) (ha : 0 ≤ a ∧ a ≤ 1000000000000) : W (fun k _ => laws_markRingS.f k xs a) (· = (a + 2 * (xs.length : Int), mkRingS a xs)) := by
  have key : ∀ (rest pre : List (Int × Int)), xs = pre ++ rest → W (fun k m => (laws_markRingS.cs k m) (mkRingS a pre ++ rest) (a + 2 * (pre.length : Int)) (pre.length : Int)) (· = (a + 2 * (xs.length : Int), mkRingS a xs)) := by
    intro rest
    induction rest with
    | nil =>
      intro pre e
      have e : xs = pre := by simpa using e
      have hml := mkRingS_length pre a
      exact laws_markRingS.w0 (W.de (by simp; omega) (W.ret (by rw [e]; simp)))
    | cons x rest ih =>
      intro pre e
      have hlen : xs.length = pre.length + (rest.length + 1) := by rw [e]; simp
      have hml := mkRingS_length pre a
      have hn : (mkRingS a pre ++ x :: rest).length = pre.length + (rest.length + 1) := by simp [hml]
      have hr : ∀ v, rd (0, 0) ((mkRingS a pre ++ x :: rest).set pre.length v) (pre.length : Int) = v := fun v => by
        rw [← hml, List.set_append_right _ _ (Nat.le_refl _)]; simp only [Nat.sub_self, List.set_cons_zero]; exact rd_mid _ _ _
      have hs : ∀ v, (mkRingS a pre ++ x :: rest).set pre.length v = mkRingS a pre ++ [v] ++ rest := fun v => by
        rw [← hml, List.set_append_right _ _ (Nat.le_refl _)]; simp
      have := ih (pre ++ [x]) (by simp [e])
      rw [mkRingS_snoc] at this
      refine laws_markRingS.w0 (W.dt (by omega) ?_)
      simp only [Int.toNat_natCast, hr, List.set_set, List.length_set]
      rw [w64 (i := a + 2 * (pre.length : Int) + 1) (by omega) (by omega), w64 (i := a + 2 * (pre.length : Int) + 1 + 1) (by omega) (by omega), w64 (i := (pre.length : Int) + 1) (by omega) (by omega)]
      simp only [hs]
      have hb : 0 ≤ (pre.length : Int) ∧ (pre.length : Int) < ((mkRingS a pre ++ x :: rest).length : Int) := by omega
      simp only [hb.1, hb.2, if_true]
      have e2 : a + 2 * ((pre ++ [x]).length : Int) = a + 2 * (pre.length : Int) + 1 + 1 := by simp; omega
      rw [e2, show ((pre ++ [x]).length : Int) = (pre.length : Int) + 1 by simp] at this
      simpa [mkRingS, Int.add_assoc] using this
  refine laws_markRingS.w ?_
  simpa [mkRingS] using key xs [] rfl
theorem heldRingS_w (xs : List (Int × Int)) (a : Int) (hl : xs.length ≤ 1048576) (ha : 0 ≤ a ∧ a ≤ 1000000000000) : W (fun k _ => laws_heldRingS.f k (mkRingS a xs) a) (· = a + 2 * (xs.length : Int)) := by
  have key : ∀ (rest pre : List (Int × Int)), xs = pre ++ rest → W (fun k m => (laws_heldRingS.cs k m) (mkRingS a xs) (a + 2 * (pre.length : Int)) (pre.length : Int)) (· = a + 2 * (xs.length : Int)) := by
    intro rest
    induction rest with
    | nil =>
      intro pre e
      have e : xs = pre := by simpa using e
      have hml := mkRingS_length xs a
      exact laws_heldRingS.w0 (W.de (by rw [hml, e]; omega) (W.ret (by rw [e])))
    | cons x rest ih =>
      intro pre e
      have hlen : xs.length = pre.length + (rest.length + 1) := by rw [e]; simp
      have hml := mkRingS_length xs a
      have hml' := mkRingS_length pre a
      have hq : ∀ (r p : List (Int × Int)) (b : Int), ∃ z, mkRingS b (p ++ x :: r) = mkRingS b p ++ mkRingS (b + 2 * (p.length : Int)) [x] ++ z := fun r p => by
        induction p with
        | nil => intro b; exact ⟨_, by simp [mkRingS]; rfl⟩
        | cons y p ihp =>
          intro b
          obtain ⟨z, hz⟩ := ihp (b + 2)
          refine ⟨z, ?_⟩
          simp only [List.cons_append, mkRingS, hz, List.length_cons]
          rw [show b + 2 + 2 * (p.length : Int) = b + 2 * ((p.length + 1 : Nat) : Int) by omega]
      obtain ⟨z, hz⟩ := hq rest pre a
      rw [← e] at hz
      have hx : rd (0, 0) (mkRingS a xs) (pre.length : Int) = ((a + 2 * (pre.length : Int)), (a + 2 * (pre.length : Int)) + 1) := by
        rw [hz, ← hml', List.append_assoc]; simp only [mkRingS, List.cons_append, List.nil_append]; rw [rd_mid, hml']
      have := ih (pre ++ [x]) (by simp [e])
      refine laws_heldRingS.w0 (W.dt (by omega) ?_)
      rw [hx]
      rw [w64 (i := a + 2 * (pre.length : Int) + 1) (by omega) (by omega), w64 (i := a + 2 * (pre.length : Int) + 1 + 1) (by omega) (by omega), w64 (i := (pre.length : Int) + 1) (by omega) (by omega)]
      have hb : 0 ≤ (pre.length : Int) ∧ (pre.length : Int) < ((mkRingS a xs).length : Int) := by omega
      simp only [hb.1, hb.2, if_true]
      have e2 : a + 2 * ((pre ++ [x]).length : Int) = a + 2 * (pre.length : Int) + 1 + 1 := by simp; omega
      rw [e2, show ((pre ++ [x]).length : Int) = (pre.length : Int) + 1 by simp] at this
      exact W.nde (by first | trivial | omega) (W.nde (by first | trivial | omega) (this))
  refine laws_heldRingS.w ?_
  simpa using key xs [] rfl
end Go.Proofs.Ytmgelocefebldaa.R
