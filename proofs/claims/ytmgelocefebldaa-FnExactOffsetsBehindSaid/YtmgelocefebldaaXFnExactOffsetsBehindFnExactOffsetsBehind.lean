/- The program's OffsetsBehind answers what the reference's does, for all arguments, and its result is new memory: the plain statement. -/
import Derived.Test.YtmgelocefebldaaXFnExactOffsetsBehindOffsB
import Derived.Test.YtmgelocefebldaaXFnExactOffsetsBehindAxEm
import Derived.Test.YtmgelocefebldaaXFnExactOffsetsBehindAxE0
import Derived.Test.YtmgelocefebldaaXFnExactOffsetsBehindAxK
import Derived.Test.YtmgelocefebldaaRvPuFnExactOffsetsBehind
namespace Go.Proofs.Ytmgelocefebldaa.Pure
open Go.Rv Go.Rv.Ax R
set_option linter.unusedVariables false
set_option linter.unusedSimpArgs false
abbrev Rows := List (List Int)
def sm (x : Rows) : Prop := x.length ≤ 60 ∧ ∀ y ∈ x, y.length ≤ 2
theorem eqSS_w (x : Rows) (h : sm x) : W (fun k _ => laws_eqInt64SS.f k x x) (· = true) := by
  have hl := h.1
  have key : ∀ (rest pre : Rows), x = pre ++ rest → W (fun k m => (laws_eqInt64SS.cs k m) x x (pre.length : Int)) (· = true) := by
    intro rest
    induction rest with
    | nil =>
      intro pre e
      exact laws_eqInt64SS.w0 (W.de (by rw [e]; simp) (W.ret rfl))
    | cons c rest ih =>
      intro pre e
      have hlen : x.length = pre.length + (rest.length + 1) := by rw [e]; simp
      have hx : rd [] x (pre.length : Int) = c := by rw [e]; exact rd_mid _ _ _
      have hc := h.2 c (by rw [e]; simp)
      refine laws_eqInt64SS.w0 (W.dt (by omega) (W.t (by omega) (W.t (by omega) (W.t (by omega) (W.t (by omega) ?_)))))
      rw [hx, w64 (by omega) (by omega)]
      refine W.bindE (eqInt64S_w c (by omega)) (W.ne rfl ?_)
      have := ih (pre ++ [c]) (by rw [e]; simp)
      simpa using this
  exact laws_eqInt64SS.w (W.nde rfl (key x [] rfl))
theorem mkRow_eq : ∀ (x : List Int) (s : Int), T.mkRow s x = mkInt64S s x
  | [], _ => rfl
  | _ :: r, s => by simp [T.mkRow, mkInt64S, mkRow_eq r]
theorem totL_le2 {x : Rows} (h : sm x) : ∀ k, k ≤ x.length → (T.totL (T.lenA x) k : Int) ≤ 2 * k
  | 0, _ => by simp [T.totL]
  | k + 1, hk => by
    have ih := totL_le2 h k (by omega)
    have hx : x[k]? = some x[k] := List.getElem?_eq_getElem (by omega)
    have hl : T.lenA x k = x[k].length := by simp [T.lenA, List.getD, hx]
    have := h.2 x[k] (List.getElem_mem _)
    simp only [T.totL, hl]
    omega
theorem heldSS_w (x : Rows) (h : sm x) : W (fun k _ => laws_heldInt64SS.f k (T.mkRows 1 x) 1) (· = 1 + (T.totL (T.lenA x) x.length : Int)) := by
  have hl := h.1
  have hml := T.mkRows_length x 1
  have key : ∀ (d i : Nat), x.length = i + d → W (fun k m => (laws_heldInt64SS.cs k m) (T.mkRows 1 x) (1 + (T.totL (T.lenA x) i : Int)) (i : Int)) (· = 1 + (T.totL (T.lenA x) x.length : Int)) := by
    intro d
    induction d with
    | zero =>
      intro i e
      exact laws_heldInt64SS.w0 (W.de (by omega) (W.ret (by rw [e]; simp)))
    | succ d ih =>
      intro i e
      have hi : i < (T.mkRows 1 x).length := by omega
      obtain ⟨y, h1, h2⟩ := T.mkRows_get x 1 i _ (List.getElem?_eq_getElem hi)
      have hx : rd [] (T.mkRows 1 x) (i : Int) = mkInt64S (1 + (T.totL (T.lenA x) i : Int)) y := by rw [rd_at hi, h2, mkRow_eq]
      have hy : y.length ≤ 2 := h.2 y (List.mem_of_getElem? h1)
      have hL : T.lenA x i = y.length := by simp [T.lenA, List.getD, h1]
      have ht := totL_le2 h i (by omega)
      refine laws_heldInt64SS.w0 (W.dt (by omega) (W.t (by omega) (W.t (by omega) ?_)))
      rw [hx, w64 (by omega) (by omega)]
      refine W.bindE (heldInt64S_w y _ (by omega) (by omega)) (W.de (by omega) ?_)
      have := ih (i + 1) (by omega)
      simp only [T.totL, hL] at this
      have e2 : 1 + (T.totL (T.lenA x) i : Int) + 1 * (y.length : Int) = 1 + ((T.totL (T.lenA x) i + y.length : Nat) : Int) := by omega
      have e3 : ((i + 1 : Nat) : Int) = (i : Int) + 1 := by omega
      rw [e3] at this
      rw [e2]
      exact this
  exact laws_heldInt64SS.w (by simpa [T.totL] using key x.length 0 (by omega))
theorem markSS_eq (k : Nat) (x : Rows) (h : sm x) : laws_markInt64SS.f k x 1 = some (1 + (T.totL (T.lenA x) x.length : Int), T.mkRows 1 x) := by
  unfold laws_markInt64SS.f T.markSSF
  rw [if_pos, if_pos (by decide)]
  simp only [T.okR, Bool.and_eq_true, decide_eq_true_eq, List.all_eq_true]
  exact ⟨by have := h.1; omega, fun y hy => by have := h.2 y hy; omega⟩
theorem FnExactOffsetsBehind : PureFnExactOffsetsBehind := by
  rintro ⟨⟨a, b, c, d⟩, l⟩ n ⟨e, f, g, h⟩ t hw hn hs ht
  show ∃ k, laws_FnExactOffsetsBehind.f k a b c d l n e f g h t = some true
  have hn := wf_i64 hn
  have hll : l.length ≤ 9223372036854775807 := hw.2.1
  refine W.yes (laws_FnExactOffsetsBehind.w (W.bindE (szAxis_w a b c d l hll) ?_))
  by_cases hl : l.length ≤ 1048576
  case neg => rw [if_pos (by omega)]; exact W.dt (by omega) (W.ret rfl)
  rw [if_neg (by omega)]
  refine W.de (by omega) (W.bindN (fun k => szRingS_eq k t _ (by omega) ht.1) ?_)
  by_cases hq : (1048576 : Int) - (l.length : Int) < (t.length : Int)
  · rw [if_pos hq]; exact W.dt (by omega) (W.ret rfl)
  rw [if_neg hq]
  have htl : t.length ≤ 1048576 := by omega
  have hv2 := offV_two (p := (a, b, c, d)) (l := l) (b := n) (s := (e, f, g, h)) (t := t)
  have hS : W (fun k _ => spec_OffsetsBehind.f k a b c d l n e f g h t) (· = offV (a, b, c, d) l n (e, f, g, h) t) :=
    spec_OffsetsBehind.w (W.bindE (specOff_w (a, b, c, d) l n (e, f, g, h) t htl hn) (W.ret rfl))
  have hI := implOff_w (a, b, c, d) l n (e, f, g, h) t htl
  generalize offV (a, b, c, d) l n (e, f, g, h) t = v at *
  obtain ⟨x, ok⟩ := v
  have hsm : sm x := ⟨hv2.1, fun y hy => by have := (hv2.2 y hy).1; omega⟩
  have htot := totL_le2 hsm x.length (Nat.le_refl _)
  have hx60 := hsm.1
  have E := eqSS_w x hsm
  refine W.de (by omega) (W.bindE (toAxis_w (a, b, c, d) l hl) (W.bindN (fun k => rfl) (W.bindE (toRingS_w t htl) (W.bindE hS ?_))))
  refine W.bindE (toAxis_w (a, b, c, d) l hl) (W.bindE (toRingS_w t htl) (W.bindN (fun k => rfl) (W.bindE hI (W.bindE E (W.ne rfl (W.e (by simp) ?_))))))
  refine laws_FnExactOffsetsBehind.w0 ?_
  refine W.bindE (toAxis_w (a, b, c, d) l hl) (W.bindE (eqAxis_w a b c d l hl) (W.ne rfl (W.bindE (toRingS_w t htl) (W.bindE (eqRingS_w t htl) (W.ne rfl ?_)))))
  refine W.bindE (markAxis_w a b c d l hl) (W.bindE (markRingS_w t _ htl (by omega)) (W.de (by simp only; omega) (W.bindE E (W.ne rfl (W.e (by simp) ?_)))))
  refine laws_FnExactOffsetsBehind.w1 ?_
  refine W.bindN (fun k => markSS_eq k x hsm) (W.bindE (heldSS_w x hsm) (W.de (by omega) (W.nde rfl ?_)))
  refine W.bindE (toAxis_w (a, b, c, d) l hl) (W.bindN (fun k => rfl) (W.bindE (toRingS_w t htl) (W.bindE hI (W.bindE E (W.ne rfl (W.e (by simp) ?_))))))
  exact W.bindE (heldSS_w x hsm) (W.de (by omega) (W.nde rfl (W.ret rfl)))
end Go.Proofs.Ytmgelocefebldaa.Pure
