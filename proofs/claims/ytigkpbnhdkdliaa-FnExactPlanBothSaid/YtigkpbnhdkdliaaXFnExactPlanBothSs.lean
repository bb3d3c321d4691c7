/- Rows of rows of numbers: equal to themselves, marked, read back. -/
import Derived.Test.YtigkpbnhdkdliaaXFnExactPlanBothO
import Derived.Test.YtigkpbnhdkdliaaXFnExactPlanBothFr
namespace Go.Proofs.Ytigkpbnhdkdliaa.Pure
open Go.Rv R
set_option linter.unusedVariables false
set_option linter.unusedSimpArgs false
abbrev Rows := List (List Int)
def sm (x : Rows) : Prop := x.length ≤ 60 ∧ ∀ y ∈ x, y.length ≤ 2
theorem eqSS_w (x : Rows) (h : sm x) : W (fun k _ => laws_eqInt64SS.f k x x) (· = true) := by
  have hl := h.1
  have key : ∀ (rest pre : Rows), x = pre ++ rest → W (fun k m => (laws_eqInt64SS.cs k m) x x (pre.length : Int)) (· = true) := by
    intro rest
    induction rest with
    | nil =>
      intro pre e
      exact laws_eqInt64SS.w0 (W.de (by rw [e]; simp) (W.ret rfl))
    | cons c rest ih =>
      intro pre e
      have hlen : x.length = pre.length + (rest.length + 1) := by rw [e]; simp
      have hx : rd [] x (pre.length : Int) = c := by rw [e]; exact rd_mid _ _ _
      have hc := h.2 c (by rw [e]; simp)
      refine laws_eqInt64SS.w0 (W.dt (by omega) (W.t (by omega) (W.t (by omega) (W.t (by omega) (W.t (by omega) ?_)))))
      rw [hx, w64 (by omega) (by omega)]
      refine W.bindE (eqInt64S_w c (by omega)) (W.ne rfl ?_)
      have := ih (pre ++ [c]) (by rw [e]; simp)
      simpa using this
  exact laws_eqInt64SS.w (W.nde rfl (key x [] rfl))
theorem mkRow_eq : ∀ (x : List Int) (s : Int), T.mkRow s x = mkInt64S s x
  | [], _ => rfl
  | _ :: r, s => by simp [T.mkRow, mkInt64S, mkRow_eq r]
theorem totL_le2 {x : Rows} (h : sm x) : ∀ k, k ≤ x.length → (T.totL (T.lenA x) k : Int) ≤ 2 * k
  | 0, _ => by simp [T.totL]
  | k + 1, hk => by
    have ih := totL_le2 h k (by omega)
    have hx : x[k]? = some x[k] := List.getElem?_eq_getElem (by omega)
    have hl : T.lenA x k = x[k].length := by simp [T.lenA, List.getD, hx]
    have := h.2 x[k] (List.getElem_mem _)
    simp only [T.totL, hl]
    omega
theorem heldSS_w (x : Rows) (h : sm x) : W (fun k _ => laws_heldInt64SS.f k (T.mkRows 1 x) 1) (· = 1 + (T.totL (T.lenA x) x.length : Int)) := by
  have hl := h.1
  have hml := T.mkRows_length x 1
  have key : ∀ (d i : Nat), x.length = i + d → W (fun k m => (laws_heldInt64SS.cs k m) (T.mkRows 1 x) (1 + (T.totL (T.lenA x) i : Int)) (i : Int)) (· = 1 + (T.totL (T.lenA x) x.length : Int)) := by
    intro d
    induction d with
    | zero =>
      intro i e
      exact laws_heldInt64SS.w0 (W.de (by omega) (W.ret (by rw [e]; simp)))
    | succ d ih =>
      intro i e
      have hi : i < (T.mkRows 1 x).length := by omega
      obtain ⟨y, h1, h2⟩ := T.mkRows_get x 1 i _ (List.getElem?_eq_getElem hi)
      have hx : rd [] (T.mkRows 1 x) (i : Int) = mkInt64S (1 + (T.totL (T.lenA x) i : Int)) y := by rw [rd_at hi, h2, mkRow_eq]
      have hy : y.length ≤ 2 := h.2 y (List.mem_of_getElem? h1)
      have hL : T.lenA x i = y.length := by simp [T.lenA, List.getD, h1]
      have ht := totL_le2 h i (by omega)
      refine laws_heldInt64SS.w0 (W.dt (by omega) (W.t (by omega) (W.t (by omega) ?_)))
      rw [hx, w64 (by omega) (by omega)]
      refine W.bindE (heldInt64S_w y _ (by omega) (by omega)) (W.de (by omega) ?_)
      have := ih (i + 1) (by omega)
      simp only [T.totL, hL] at this
      have e2 : 1 + (T.totL (T.lenA x) i : Int) + 1 * (y.length : Int) = 1 + ((T.totL (T.lenA x) i + y.length : Nat) : Int) := by omega
      have e3 : ((i + 1 : Nat) : Int) = (i : Int) + 1 := by omega
      rw [e3] at this
      rw [e2]
      exact this
  exact laws_heldInt64SS.w (by simpa [T.totL] using key x.length 0 (by omega))
theorem markSS_eq (k : Nat) (x : Rows) (h : sm x) : laws_markInt64SS.f k x 1 = some (1 + (T.totL (T.lenA x) x.length : Int), T.mkRows 1 x) := by
  unfold laws_markInt64SS.f T.markSSF
  rw [if_pos, if_pos (by decide)]
  simp only [T.okR, Bool.and_eq_true, decide_eq_true_eq, List.all_eq_true]
  exact ⟨by have := h.1; omega, fun y hy => by have := h.2 y hy; omega⟩
end Go.Proofs.Ytigkpbnhdkdliaa.Pure
