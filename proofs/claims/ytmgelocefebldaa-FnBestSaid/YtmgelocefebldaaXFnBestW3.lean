/- Rules for functions that call themselves and have loops. -/
import Derived.Test.YtmgelocefebldaaXFnBestO
namespace Go.Proofs.Ytmgelocefebldaa.R
open Go.Rv
set_option linter.unusedVariables false
set_option linter.unusedSimpArgs false
/-- from some round on, with rounds for the depth (n) and for the loops (r) -/
def W3 {α : Type} (g : Nat → Nat → Nat → Option α) (P : α → Prop) : Prop := ∃ v, P v ∧ ∃ N, ∀ k n r, N ≤ k → N ≤ n → N ≤ r → g k n r = some v
namespace W3
variable {α β : Type} {P : α → Prop}
theorem ret {v : α} (h : P v) : W3 (fun _ _ _ => some v) P := ⟨v, h, 0, fun _ _ _ _ _ _ => rfl⟩
theorem mono {g : Nat → Nat → Nat → Option α} {Q : α → Prop} (h : W3 g Q) (h' : ∀ v, Q v → P v) : W3 g P := by
  obtain ⟨v, hv, hn⟩ := h
  exact ⟨v, h' v hv, hn⟩
theorem bind {f : Nat → Option β} {Q : β → Prop} {g : Nat → Nat → Nat → β → Option α} (h : W (fun k _ => f k) Q) (h' : ∀ t, Q t → W3 (fun k n r => g k n r t) P) : W3 (fun k n r => (f k).bind fun t => g k n r t) P := by
  obtain ⟨t, hq, n, hn⟩ := h
  obtain ⟨v, hp, n', hn'⟩ := h' t hq
  refine ⟨v, hp, max n n', fun k m r hk hm hr => ?_⟩
  show (f k).bind _ = _
  rw [show f k = some t from hn k k (by omega) (by omega)]
  exact hn' k m r (by omega) (by omega) (by omega)
theorem call {f : Nat → Nat → Option β} {Q : β → Prop} {g : Nat → Nat → Nat → β → Option α} (h : W f Q) (h' : ∀ t, Q t → W3 (fun k n r => g k n r t) P) : W3 (fun k n r => (f k n).bind fun t => g k n r t) P := by
  obtain ⟨t, hq, n, hn⟩ := h
  obtain ⟨v, hp, n', hn'⟩ := h' t hq
  refine ⟨v, hp, max n n', fun k m r hk hm hr => ?_⟩
  show (f k m).bind _ = _
  rw [show f k m = some t from hn k m (by omega) (by omega)]
  exact hn' k m r (by omega) (by omega) (by omega)
theorem step {g g' : Nat → Nat → Nat → Option α} (h : ∀ k n r, g k n (r + 1) = g' k n r) (h' : W3 g' P) : W3 g P := by
  obtain ⟨v, hp, n, hn⟩ := h'
  refine ⟨v, hp, n + 1, fun k m r hk hm hr => ?_⟩
  obtain ⟨j, rfl⟩ : ∃ j, r = j + 1 := ⟨r - 1, by omega⟩
  rw [h]
  exact hn k m j (by omega) (by omega) (by omega)
theorem diag {g : Nat → Nat → Nat → Option α} (h : W3 g P) : W (fun k n => g k n k) P := by
  obtain ⟨v, hp, n, hn⟩ := h
  exact ⟨v, hp, n, fun k m hk hm => hn k m k hk hm hk⟩
variable {x y : Nat → Nat → Nat → Option α} {c : Prop} [Decidable c]
theorem t (h : c) (h' : W3 x P) : W3 (fun k n r => if c then x k n r else y k n r) P := by simpa only [h, if_true] using h'
theorem e (h : ¬c) (h' : W3 y P) : W3 (fun k n r => if c then x k n r else y k n r) P := by simpa only [h, if_false] using h'
theorem dt (h : c) (h' : W3 x P) : W3 (fun k n r => if decide c = true then x k n r else y k n r) P := t (decide_eq_true h) h'
theorem de (h : ¬c) (h' : W3 y P) : W3 (fun k n r => if decide c = true then x k n r else y k n r) P := e (by simpa using h) h'
end W3
end Go.Proofs.Ytmgelocefebldaa.R
