/- A verified evaluator of the form: texts W. -/
import Derived.Test.YtigkpbnhdkdliaaRvM0
set_option linter.unusedSimpArgs false
set_option linter.unusedVariables false
namespace Go.Rv
def W {α : Type} (g : Nat → Nat → Option α) (P : α → Prop) : Prop := ∃ v, P v ∧ ∃ n, ∀ k m, n ≤ k → n ≤ m → g k m = some v
namespace W
variable {α β : Type} {P : α → Prop}
theorem ret {v : α} (h : P v) : W (fun _ _ => some v) P := ⟨v, h, 0, fun _ _ _ _ => rfl⟩
theorem mono {g : Nat → Nat → Option α} {Q : α → Prop} (h : W g Q) (h' : ∀ v, Q v → P v) : W g P := by
  obtain ⟨v, hv, hn⟩ := h
  exact ⟨v, h' v hv, hn⟩
theorem bind {f : Nat → Option β} {Q : β → Prop} {g : Nat → Nat → β → Option α} (h : W (fun k _ => f k) Q) (h' : ∀ t, Q t → W (fun k m => g k m t) P) : W (fun k m => (f k).bind fun t => g k m t) P := by
  obtain ⟨t, hq, n, hn⟩ := h
  obtain ⟨v, hp, n', hn'⟩ := h' t hq
  refine ⟨v, hp, max n n', fun k m hk hm => ?_⟩
  show (f k).bind _ = _
  rw [show f k = some t from hn k k (by omega) (by omega)]
  exact hn' k m (by omega) (by omega)
theorem bindE {f : Nat → Option β} {t : β} {g : Nat → Nat → β → Option α} (h : W (fun k _ => f k) (· = t)) (h' : W (fun k m => g k m t) P) : W (fun k m => (f k).bind fun t => g k m t) P :=
  bind h fun u e => by subst e; exact h'
theorem bindN {f : Nat → Option β} {t : β} {g : Nat → Nat → β → Option α} (h : ∀ k, f k = some t) (h' : W (fun k m => g k m t) P) : W (fun k m => (f k).bind fun t => g k m t) P :=
  bindE ⟨t, rfl, 0, fun k _ _ _ => h k⟩ h'
theorem step {g g' : Nat → Nat → Option α} (h : ∀ k m, g k (m + 1) = g' k m) (h' : W g' P) : W g P := by
  obtain ⟨v, hp, n, hn⟩ := h'
  refine ⟨v, hp, n + 1, fun k m hk hm => ?_⟩
  obtain ⟨j, rfl⟩ : ∃ j, m = j + 1 := ⟨m - 1, by omega⟩
  rw [h]
  exact hn k j (by omega) (by omega)
theorem diag {g : Nat → Nat → Option α} (h : W g P) : W (fun k _ => g k k) P := by
  obtain ⟨v, hp, n, hn⟩ := h
  exact ⟨v, hp, n, fun k _ hk _ => hn k k hk hk⟩
theorem congr {g g' : Nat → Nat → Option α} (h : W g' P) (e : ∀ k m, g k m = g' k m) : W g P := by
  obtain ⟨v, hp, n, hn⟩ := h
  exact ⟨v, hp, n, fun k m hk hm => (e k m).trans (hn k m hk hm)⟩
theorem eq {g : Nat → Option α} {v : α} (h : ∀ k, g k = some v) : W (fun k _ => g k) (· = v) := ⟨v, rfl, 0, fun k _ _ _ => h k⟩
theorem yes {g : Nat → Option Bool} (h : W (fun k _ => g k) (· = true)) : ∃ k, g k = some true := by
  obtain ⟨v, hp, n, hn⟩ := h
  subst hp
  exact ⟨n, hn n n (Nat.le_refl _) (Nat.le_refl _)⟩
theorem nextNil {β : Type} {A : Nat → Nat → Option α} {B : Nat → Nat → β × List β → Option α} (h : W A P) : W (fun k m => nextL [] (A k m) (B k m)) P := h
theorem allSame_w {β : Type} : ∀ {l : List β} (hl : l ≠ []) {f : Nat → Nat → β → Option α} {v : α}, (∀ x ∈ l, W (fun k m => f k m x) (· = v)) → W (fun k m => allSame l (f k m)) (· = v) := by
  intro l hl f v h
  have key : ∀ l' : List β, (∀ x ∈ l', W (fun k m => f k m x) (· = v)) → ∃ n, ∀ k m, n ≤ k → n ≤ m → ∀ x ∈ l', f k m x = some v := by
    intro l'
    induction l' with
    | nil => intro _; exact ⟨0, fun k m _ _ x hx => by cases hx⟩
    | cons y r ih =>
      intro h
      obtain ⟨n1, h1⟩ := ih fun x hx => h x (List.mem_cons_of_mem _ hx)
      obtain ⟨v', e, n2, h2⟩ := h y List.mem_cons_self
      subst e
      refine ⟨max n1 n2, fun k m hk hm x hx => ?_⟩
      rcases List.mem_cons.1 hx with rfl | hx
      · exact h2 k m (by omega) (by omega)
      · exact h1 k m (by omega) (by omega) x hx
  obtain ⟨n, hn⟩ := key l h
  refine ⟨v, rfl, n, fun k m hk hm => ?_⟩
  have hall := hn k m hk hm
  show allSame l (f k m) = some v
  unfold allSame
  have hh : l ≠ [] ∧ ∃ r, ∀ x ∈ l, f k m x = some r := ⟨hl, v, hall⟩
  rw [dif_pos hh]
  obtain ⟨x, hx⟩ : ∃ x, x ∈ l := by cases l with | nil => exact (hl rfl).elim | cons y r => exact ⟨y, List.mem_cons_self⟩
  have h1 := Classical.choose_spec hh.2 x hx
  rw [hall x hx] at h1
  exact congrArg some (Option.some.inj h1).symm
theorem nextAll {β : Type} {xs : List β} (hx : xs ≠ []) {A : Nat → Nat → Option α} {B : Nat → Nat → β × List β → Option α} {v : α} (h : ∀ p ∈ picks xs, W (fun k m => B k m p) (· = v)) : W (fun k m => nextL xs (A k m) (B k m)) (· = v) := by
  cases xs with
  | nil => exact (hx rfl).elim
  | cons y r => exact allSame_w (by simp [picks]) h
section
variable {x y : Nat → Nat → Option α} {c : Prop} [Decidable c] {b : Bool}
theorem t (h : c) (h' : W x P) : W (fun k m => if c then x k m else y k m) P := by simpa only [h, if_true] using h'
theorem e (h : ¬c) (h' : W y P) : W (fun k m => if c then x k m else y k m) P := by simpa only [h, if_false] using h'
theorem i (h : c → W x P) (h' : ¬c → W y P) : W (fun k m => if c then x k m else y k m) P := by
  by_cases hc : c
  · exact t hc (h hc)
  · exact e hc (h' hc)
theorem dt (h : c) (h' : W x P) : W (fun k m => if decide c = true then x k m else y k m) P := t (decide_eq_true h) h'
theorem de (h : ¬c) (h' : W y P) : W (fun k m => if decide c = true then x k m else y k m) P := e (by simpa using h) h'
theorem di (h : c → W x P) (h' : ¬c → W y P) : W (fun k m => if decide c = true then x k m else y k m) P := i (fun q => h (of_decide_eq_true q)) (fun q => h' (by simpa using q))
theorem ndt (h : ¬c) (h' : W x P) : W (fun k m => if (!decide c) = true then x k m else y k m) P := t (by simpa using h) h'
theorem nde (h : c) (h' : W y P) : W (fun k m => if (!decide c) = true then x k m else y k m) P := e (by simpa using h) h'
theorem ndi (h : ¬c → W x P) (h' : c → W y P) : W (fun k m => if (!decide c) = true then x k m else y k m) P := i (fun q => h (by simpa using q)) (fun q => h' (by simpa using q))
theorem nt (h : b = false) (h' : W x P) : W (fun k m => if (!b) = true then x k m else y k m) P := t (by simpa using h) h'
theorem ne (h : b = true) (h' : W y P) : W (fun k m => if (!b) = true then x k m else y k m) P := e (by simpa using h) h'
theorem bi (h : b = true → W x P) (h' : b = false → W y P) : W (fun k m => if b = true then x k m else y k m) P := i h (fun q => h' (by simpa using q))
theorem ni (h : b = false → W x P) (h' : b = true → W y P) : W (fun k m => if (!b) = true then x k m else y k m) P := i (fun q => h (by simpa using q)) (fun q => h' (by simpa using q))
end
end W
theorem w64 {i : Int} (h0 : -9223372036854775808 ≤ i) (h1 : i ≤ 9223372036854775807) : wrap64 i = i := by rw [wrap64_eq]; unfold RowKit.wrap64; omega
theorem rd_mid {α : Type} {d : α} (pre : List α) (x : α) (rest : List α) : rd d (pre ++ x :: rest) (pre.length : Int) = x := by simp [rd]
theorem rd_at {α : Type} {d : α} {xs : List α} {i : Nat} (h : i < xs.length) : rd d xs (i : Int) = xs[i] := by simp [rd, List.getD_eq_getElem?_getD, h]
theorem rd_ofNat {α : Type} {d : α} {xs : List α} {i : Int} (h : 0 ≤ i) (h' : i < xs.length) : rd d xs i = xs[i.toNat]'(by omega) := by
  obtain ⟨n, rfl⟩ := Int.eq_ofNat_of_zero_le h
  rw [rd_at (by omega)]
  rfl
end Go.Rv
