/- Marks of rows, walked by hand: only int cells of the blocks that may turn are written. -/
import Derived.Test.YtlkmjldhhoopcaaRvToHm
namespace Go.Proofs.Ytlkmjldhhoopcaa.T
open Go.RowKit
set_option linter.unusedVariables false
set_option linter.unusedSimpArgs false
/-- only blocks of M turn; an int cell stays an int cell, every other cell stays as it is -/
structure Ish (M : Nat → Prop) (w w' : World) : Prop where
  os : w'.os = w.os
  tape : w'.tape = w.tape
  output : w'.output = w.output
  size : w'.heap.size = w.heap.size
  old : ∀ b, ¬ M b → w'.heap[b]? = w.heap[b]?
  ints : ∀ b o n, w.cell? ⟨b, o, none⟩ = some (.int .i64 n) → ∃ n', w'.cell? ⟨b, o, none⟩ = some (.int .i64 n')
  rest : ∀ b o v, w.cell? ⟨b, o, none⟩ = some v → (∀ n, v ≠ .int .i64 n) → w'.cell? ⟨b, o, none⟩ = some v
  froz : ∀ b o, w.frozen? ⟨b, o, none⟩ = false → w'.frozen? ⟨b, o, none⟩ = false
theorem Ish.refl (M : Nat → Prop) (w : World) : Ish M w w := ⟨rfl, rfl, rfl, rfl, fun _ _ => rfl, fun _ _ n h => ⟨n, h⟩, fun _ _ _ h _ => h, fun _ _ h => h⟩
theorem Ish.trans {M : Nat → Prop} {a b c : World} (h : Ish M a b) (k : Ish M b c) : Ish M a c :=
  ⟨k.os.trans h.os, k.tape.trans h.tape, k.output.trans h.output, k.size.trans h.size, fun x hx => (k.old x hx).trans (h.old x hx), fun x o n hn => by
    obtain ⟨n', hn'⟩ := h.ints x o n hn
    exact k.ints x o n' hn', fun x o v hv hne => k.rest x o v (h.rest x o v hv hne) hne, fun x o hf => k.froz x o (h.froz x o hf)⟩
theorem Ish.set {M : Nat → Prop} {w : World} {b o : Nat} {n : Int} (hM : M b) (hc : w.cell? ⟨b, o, none⟩ = some (.int .i64 n)) (m : Int) : Ish M w (w.setCell ⟨b, o, none⟩ (.int .i64 m)) where
  os := rfl
  tape := rfl
  output := rfl
  size := by simp [World.setCell]
  old := fun x hx => Below.heap_setCell w _ _ x (fun e => hx (by rw [e]; exact hM))
  ints := fun x y k hk => by
    by_cases e : x = b ∧ y = o
    · obtain ⟨rfl, rfl⟩ := e
      exact ⟨m, World.cell?_setCell_same' _ _ _ (by rw [hc]; rfl)⟩
    · exact ⟨k, by rw [World.cell?_setCell_other _ _ _ _ (fun q => e (by cases q; exact ⟨rfl, rfl⟩))]; exact hk⟩
  rest := fun x y v hv hne => by
    by_cases e : x = b ∧ y = o
    · obtain ⟨rfl, rfl⟩ := e
      rw [hc] at hv; cases hv; exact (hne n rfl).elim
    · rw [World.cell?_setCell_other _ _ _ _ (fun q => e (by cases q; exact ⟨rfl, rfl⟩))]; exact hv
  froz := fun x y hf => by rw [World.frozen?_setCell]; exact hf
set_option maxHeartbeats 2000000 in
set_option maxRecDepth 100000 in
theorem mark34 {M : Nat → Prop} (A : Option Addr) (n cap b off : Nat) (s : Int) (hs : 0 ≤ s ∧ s ≤ 10000000000000) (hn : n ≤ 1048576) (w : World) (hA : 0 < n → A = some ⟨b, off, none⟩) (hM : 0 < n → M b)
    (hc : ∀ j, j < n → (∃ m, w.cell? ⟨b, off + j, none⟩ = some (.int .i64 m)) ∧ w.frozen? ⟨b, off + j, none⟩ = false) :
    Calls Try.prog 34 #[.slice A n cap, .int .i64 s] w fun e w' => e = .returned (.int .i64 (s + n)) ∧ Ish M w w' := by
  go_enter Try.func34, Try.ntmps34
  go_wp2
  go_loopg [1, 5] n (fun g s' i wr => ∃ k : Nat, k ≤ n ∧ g = n - k ∧ s' = .int .i64 (s + k) ∧ i = .int .i64 k ∧ Ish M w wr)
  case atStart => exact ⟨0, Nat.zero_le _, rfl, by simp, rfl, Ish.refl _ _⟩
  case round =>
    obtain ⟨k, hk, rfl, rfl, rfl, hI⟩ := hrel
    by_cases hlt : k < n
    · obtain rfl := hA (by omega)
      obtain ⟨⟨m, hm⟩, hf⟩ := hc k hlt
      obtain ⟨m', hm'⟩ := hI.ints b (off + k) m hm
      have hf' := hI.froz b (off + k) hf
      have hz : (k : Int) < (n : Int) := by omega
      clear hc hA
      go_wp2
      go_roundg (n - (k + 1))
      case measure => omega
      case rel => exact ⟨k + 1, by omega, rfl, by first | (simp; done) | (simp; omega), by first | (simp; done) | (simp; omega), hI.trans (Ish.set (hM (by omega)) hm' _)⟩
    · obtain rfl : k = n := by omega
      have hz : ¬ ((k : Int) < (k : Int)) := by omega
      clear hc hA
      go_wp2
      go_ret
      exact ⟨rfl, hI⟩
def tot (L : Nat → Nat) : Nat → Nat
  | 0 => 0
  | k + 1 => tot L k + 1 + L k
theorem tot_le {L : Nat → Nat} : ∀ (n : Nat), (∀ j, j < n → L j ≤ 1048576) → tot L n ≤ 1048577 * n
  | 0, _ => Nat.le_refl _
  | n + 1, h => by have := tot_le n fun j hj => h j (by omega); have := h n (by omega); simp only [tot]; omega
structure Sidd (p : Prop) : Prop where
  out : p
/-- what is asked of element j of the outer row -/
def Elt (M : Nat → Prop) (w : World) (b0 : Nat) (L : Nat → Nat) (j : Nat) : Prop := ∃ (m : Int) (A : Option Addr) (C bo oo : Nat), w.cell? ⟨b0, j * 2, none⟩ = some (.int .i64 m) ∧ w.frozen? ⟨b0, j * 2, none⟩ = false ∧ w.cell? ⟨b0, j * 2 + 1, none⟩ = some (.slice A (L j) C) ∧
  (0 < L j → A = some ⟨bo, oo, none⟩ ∧ M bo ∧ ∀ i, i < L j → (∃ m, w.cell? ⟨bo, oo + i, none⟩ = some (.int .i64 m)) ∧ w.frozen? ⟨bo, oo + i, none⟩ = false)
theorem Elt.ish {M : Nat → Prop} {w w' : World} {b0 : Nat} {L : Nat → Nat} {j : Nat} (h : Elt M w b0 L j) (hI : Ish M w w') : Elt M w' b0 L j := by
  obtain ⟨m, A, C, bo, oo, h1, h2, h3, h4⟩ := h
  obtain ⟨m', h1'⟩ := hI.ints _ _ m h1
  exact ⟨m', A, C, bo, oo, h1', hI.froz _ _ h2, hI.rest _ _ _ h3 (fun n e => by cases e), fun hl => ⟨(h4 hl).1, (h4 hl).2.1, fun i hi => ⟨by obtain ⟨q, hq⟩ := ((h4 hl).2.2 i hi).1; exact hI.ints _ _ q hq, hI.froz _ _ ((h4 hl).2.2 i hi).2⟩⟩⟩
theorem Elt.below {M : Nat → Prop} {w w' : World} {b0 : Nat} {L : Nat → Nat} {j : Nat} (h : Elt M w b0 L j) (hb : Below w.heap.size w w') (h0 : b0 < w.heap.size) (hM : ∀ b, M b → b < w.heap.size) : Elt M w' b0 L j := by
  obtain ⟨m, A, C, bo, oo, h1, h2, h3, h4⟩ := h
  refine ⟨m, A, C, bo, oo, by rw [hb.cell h0]; exact h1, by rw [hb.frozen h0]; exact h2, by rw [hb.cell h0]; exact h3, fun hl => ⟨(h4 hl).1, (h4 hl).2.1, fun i hi => ?_⟩⟩
  have hlt := hM _ (h4 hl).2.1
  rw [hb.cell hlt, hb.frozen hlt]
  exact (h4 hl).2.2 i hi
set_option maxHeartbeats 2000000 in
set_option maxRecDepth 100000 in
theorem mark68 {M : Nat → Prop} (A0 : Option Addr) (b0 n cap : Nat) (L : Nat → Nat) (s : Int) (hs : 0 ≤ s ∧ s ≤ 10000000) (hn : n ≤ 1048576) (hL : ∀ j, j < n → L j ≤ 1048576) (w : World) (hA : 0 < n → A0 = some ⟨b0, 0, none⟩ ∧ M b0)
    (h1 : ∀ j, j < n → Elt M w b0 L j) :
    Calls Try.prog 68 #[.slice A0 n cap, .int .i64 s] w fun e w' => e = .returned (.int .i64 (s + tot L n)) ∧ Ish M w w' := by
  have hu40 := Try.underlying40
  go_enter Try.func68, Try.ntmps68
  go_wp2_with fail
  go_loopg [1, 5] n (fun g s' i wr => ∃ k : Nat, k ≤ n ∧ g = n - k ∧ s' = .int .i64 (s + tot L k) ∧ i = .int .i64 k ∧ Ish M w wr)
  case atStart => exact ⟨0, Nat.zero_le _, rfl, by simp [tot], rfl, Ish.refl _ _⟩
  case round =>
    obtain ⟨k, hk, rfl, rfl, rfl, hI⟩ := hrel
    have ht := tot_le k fun j hj => hL j (by omega)
    by_cases hlt : k < n
    · obtain ⟨rfl, hM0⟩ := hA (by omega)
      obtain ⟨m', A, C, bo, oo, hm', hf', hh, h4⟩ := (h1 k hlt).ish hI
      have hz : (k : Int) < (n : Int) := by omega
      have hI1 := Ish.set hM0 hm' (s + tot L k)
      have hI2 := hI.trans hI1
      have hh2 := hI1.rest _ _ _ hh (fun n e => by cases e)
      have hLk := hL k hlt
      have H34 := Sidd.mk (mark34 (M := M) A (L k) C bo oo (s + tot L k + 1) (by omega) hLk (wr.setCell ⟨b0, k * 2, none⟩ (.int .i64 (s + tot L k))) (fun h => (h4 h).1) (fun h => (h4 h).2.1)
        (fun i hi => ⟨by obtain ⟨q, hq⟩ := ((h4 (by omega)).2.2 i hi).1; exact hI1.ints _ _ q hq, hI1.froz _ _ ((h4 (by omega)).2.2 i hi).2⟩))
      clear h1 h4 hA
      go_wp2_with (go_at_call 34; refine H34.out.mono ?_; rintro e w3 ⟨rfl, hI3⟩)
      go_roundg (n - (k + 1))
      case measure => omega
      case rel => exact ⟨k + 1, by omega, rfl, by first | (simp [tot]; done) | (simp [tot]; omega), by first | (simp; done) | (simp; omega), hI2.trans hI3⟩
    · obtain rfl : k = n := by omega
      have hz : ¬ ((k : Int) < (k : Int)) := by omega
      clear h1 hA
      go_wp2_with fail
      go_ret
      exact ⟨rfl, hI⟩
set_option maxHeartbeats 2000000 in
set_option maxRecDepth 100000 in
theorem mark30 {M : Nat → Prop} (A A0 : Option Addr) (n cap b off b0 n0 cap0 : Nat) (L : Nat → Nat) (s : Int) (hs : 0 ≤ s ∧ s ≤ 1000000) (hn : n ≤ 1048576) (hn0 : n0 ≤ 1048576) (hL : ∀ j, j < n0 → L j ≤ 1048576) (w : World)
    (hA : 0 < n → A = some ⟨b, off, none⟩ ∧ M b) (hA0 : 0 < n0 → A0 = some ⟨b0, 0, none⟩ ∧ M b0) (hM : ∀ b, M b → b < w.heap.size)
    (hc : ∀ j, j < n → (∃ m, w.cell? ⟨b, off + j, none⟩ = some (.int .i64 m)) ∧ w.frozen? ⟨b, off + j, none⟩ = false)
    (h1 : ∀ j, j < n0 → Elt M w b0 L j) :
    Calls Try.prog 30 #[.agg #[.slice A n cap, .slice A0 n0 cap0], .int .i64 s] w fun e w' => e = .returned (.int .i64 (s + n + tot L n0)) ∧ ∃ o, Ish M (w.alloc o) w' := by
  have hu30 := Try.underlying30
  have hb : ∀ o, Below w.heap.size w (w.alloc o) := fun o => (Below.refl _ _).alloc (Nat.le_refl _) o
  have H34 := Sidd.mk (fun o => mark34 (M := M) A n cap b off s (by omega) hn (w.alloc o) (fun h => (hA h).1) (fun h => (hA h).2) (fun j hj => by
    have hlt := hM _ (hA (by omega)).2
    rw [(hb o).cell hlt, (hb o).frozen hlt]
    exact hc j hj))
  have hsz : ∀ o, (w.alloc o).heap[w.heap.size]? = some o := fun o => heap_alloc_new w o
  have H68 := Sidd.mk (fun o w3 (hI : Ish M (w.alloc o) w3) => mark68 (M := M) A0 b0 n0 cap0 L (s + n) (by omega) hn0 hL w3 hA0 (fun j hj => ((h1 j hj).below (hb o) (hM _ (hA0 (by omega)).2) hM).ish hI))
  have hnM : ¬ M w.heap.size := fun h => Nat.lt_irrefl _ (hM _ h)
  clear hc h1
  go_enter Try.func30, Try.ntmps30
  go_wp2_with (first | (go_at_call 34; refine (H34.out (.cells #[.slice A n cap, .slice A0 n0 cap0] 30)).mono ?_; rintro e w3 ⟨rfl, hI⟩; have hcell : w3.cell? ⟨w.heap.size, 1, none⟩ = some (.slice A0 n0 cap0) := by (unfold World.cell?; simp only [hI.old _ hnM, hsz]; rfl)) | (go_at_call 68; refine (H68.out _ w3 hI).mono ?_; rintro e w4 ⟨rfl, hI2⟩))
  go_ret
  exact ⟨rfl, _, hI.trans hI2⟩
end Go.Proofs.Ytlkmjldhhoopcaa.T
