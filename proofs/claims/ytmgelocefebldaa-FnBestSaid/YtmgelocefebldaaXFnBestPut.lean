/- The reference puts a number into a row. -/
import Derived.Test.YtmgelocefebldaaXFnBestO
namespace Go.Proofs.Ytmgelocefebldaa.R
open Go.Rv
set_option linter.unusedVariables false
set_option linter.unusedSimpArgs false
theorem put_w (l : List Int) (x : Int) (hl : l.length ≤ 1000) : W (fun k _ => spec_l00Put.f k l x) (fun r => r.length ≤ l.length + 1 ∧ ∀ y, y ∈ r ↔ y = x ∨ y ∈ l) := by
  refine spec_l00Put.w ?_
  have key : ∀ (rest pre out : List Int) (d : Bool), l = pre ++ rest → out.length ≤ pre.length + 1 → (d = false → out.length ≤ pre.length) → (∀ y, y ∈ out ↔ (d = true ∧ y = x) ∨ y ∈ pre) →
      W (fun k m => (spec_l00Put.cs k m) l x out d (pre.length : Int)) (fun r => r.length ≤ l.length + 1 ∧ ∀ y, y ∈ r ↔ y = x ∨ y ∈ l) := by
    intro rest
    induction rest with
    | nil =>
      intro pre out d e ho hd hm
      have e : l = pre := by simpa using e
      have hpl := congrArg List.length e
      refine spec_l00Put.w0 (W.de (by rw [e]; omega) ?_)
      cases d
      · have := hd rfl
        refine W.nt rfl (W.t (by omega) (W.ret ⟨by simp; omega, fun y => ?_⟩))
        have := hm y
        simp only [List.mem_append, List.mem_singleton]
        rw [e, this]; simp [or_comm]
      · refine W.ne rfl (W.ret ⟨by rw [e]; exact ho, fun y => ?_⟩)
        rw [hm y, e]; simp
    | cons z rest ih =>
      intro pre out d e ho hd hm
      have hlen : l.length = pre.length + (rest.length + 1) := by rw [e]; simp
      have hx : rd 0 l (pre.length : Int) = z := by rw [e]; exact rd_mid _ _ _
      have hp : ((pre ++ [z]).length : Int) = (pre.length : Int) + 1 := by simp
      have step : ∀ (o : List Int) (b : Bool), o.length ≤ pre.length + 2 → (b = false → o.length ≤ pre.length + 1) → (∀ y, y ∈ o ↔ (b = true ∧ y = x) ∨ y ∈ pre ++ [z]) → W (fun k m => (spec_l00Put.cs k m) l x o b ((pre.length : Int) + 1)) (fun r => r.length ≤ l.length + 1 ∧ ∀ y, y ∈ r ↔ y = x ∨ y ∈ l) := by
        intro o b h1 h2 h3
        have := ih (pre ++ [z]) o b (by simp [e]) (by simp; omega) (fun h => by have := h2 h; simp; omega) h3
        rw [hp] at this; exact this
      refine spec_l00Put.w0 (W.dt (by omega) ?_)
      rw [hx, w64 (i := (pre.length : Int) + 1) (by omega) (by omega)]
      cases d
      · have hd := hd rfl
        refine W.nt rfl (W.t (by omega) (W.t (by omega) (W.di (fun h1 => W.t (by omega) (W.t (by omega) (W.di (fun h2 => W.t (by omega) (W.t (by omega) (W.t (by omega) (W.t (by simp; omega) ?_)))) (fun h2 => W.t (by omega) (W.t (by omega) (W.t (by omega) ?_)))))) (fun h1 => W.t (by omega) (W.t (by omega) (W.t (by omega) ?_))))))
        · refine step _ _ (by simp; omega) (fun h => by cases h) (fun y => ?_)
          simp only [List.mem_append, List.mem_singleton, hm y]; simp [or_comm, or_left_comm]
        · refine step _ _ (by simp; omega) (fun h => by cases h) (fun y => ?_)
          have hzx : z = x := by omega
          simp only [List.mem_append, List.mem_singleton, hm y, hzx]; simp [or_comm, or_left_comm]
        · refine step _ _ (by simp; omega) (fun _ => by simp; omega) (fun y => ?_)
          simp only [List.mem_append, List.mem_singleton, hm y]; simp
      · refine W.ne rfl (W.t (by omega) (W.t (by omega) (W.t (by omega) ?_)))
        refine step _ _ (by simp; omega) (fun h => by cases h) (fun y => ?_)
        simp only [List.mem_append, List.mem_singleton, hm y]; simp [or_assoc]
  exact key l [] [] false rfl (by simp) (by simp) (by simp)
end Go.Proofs.Ytmgelocefebldaa.R
