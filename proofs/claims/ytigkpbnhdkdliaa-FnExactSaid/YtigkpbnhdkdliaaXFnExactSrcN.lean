/- The reference's source of choices: what its draws answer. -/
import Derived.Test.YtigkpbnhdkdliaaXFnExactO
namespace Go.Proofs.Ytigkpbnhdkdliaa.R
open Go.Rv
set_option linter.unusedVariables false
set_option linter.unusedSimpArgs false
/-- a source: its bytes are bytes, and it has gone m steps at most -/
def Sr (c : List Int) (a m : Int) : Prop := (∀ b ∈ c, 0 ≤ b ∧ b ≤ 255) ∧ 0 ≤ a ∧ a ≤ m
theorem Sr.le {c : List Int} {a x y : Int} (h : Sr c a x) (hxy : x ≤ y) : Sr c a y := ⟨h.1, h.2.1, by have := h.2.2; omega⟩
theorem and_small (b : BitVec 64) : 0 ≤ wrap64 (IntKind.u64.wrap ((b &&& BitVec.ofInt 64 255).toNat : Int)) ∧ wrap64 (IntKind.u64.wrap ((b &&& BitVec.ofInt 64 255).toNat : Int)) ≤ 255 := by
  have h : (b &&& BitVec.ofInt 64 255).toNat ≤ 255 := by
    rw [BitVec.toNat_and]
    exact Nat.le_trans Nat.and_le_right (by decide)
  generalize (b &&& BitVec.ofInt 64 255).toNat = v at h
  have e : IntKind.u64.wrap (v : Int) = v := by
    unfold IntKind.wrap
    simp only [IntKind.signed, IntKind.bits]
    simp
    omega
  rw [e, w64 (by omega) (by omega)]
  omega
theorem next_w {c : List Int} {a s m : Int} (h : Sr c a m) (hm : m ≤ 2000000) : W (fun k _ => spec_l00Src_next.f k c a s) (fun r => (0 ≤ r.1 ∧ r.1 ≤ 255) ∧ Sr r.2.1 r.2.2.1 (m + 1)) := by
  obtain ⟨h1, h2, h3⟩ := h
  have body : ∀ b : Int, 0 ≤ b ∧ b ≤ 255 → W (fun k m => (spec_l00Src_next.cs k m) c a s b) (fun r => (0 ≤ r.1 ∧ r.1 ≤ 255) ∧ Sr r.2.1 r.2.2.1 (m + 1)) := by
    intro b hb
    refine spec_l00Src_next.w0 ?_
    rw [w64 (i := a + 1) (by omega) (by omega)]
    have hS : Sr c (a + 1) (m + 1) := ⟨h1, by omega, by omega⟩
    exact W.di (fun _ => W.ret ⟨hb, hS⟩) (fun _ => W.e (by omega) (W.ret ⟨and_small _, hS⟩))
  refine spec_l00Src_next.w (W.di (fun hlt => W.t h2 (W.t hlt ?_)) (fun _ => body 0 (by omega)))
  rw [rd_ofNat h2 hlt]
  have hb := h1 c[a.toNat] (List.getElem_mem _)
  rw [w64 (by omega) (by omega)]
  exact body _ hb
theorem pick_w {c : List Int} {a s n m : Int} (h : Sr c a m) (hm : m ≤ 1000000) : W (fun k _ => spec_l00Src_pick.f k c a s n) (fun r => (0 ≤ r.1 ∧ (r.1 = 0 ∨ r.1 < n)) ∧ Sr r.2.1 r.2.2.1 (m + 2)) := by
  refine spec_l00Src_pick.w (W.di (fun hn => W.ret ⟨by omega, h.le (by omega)⟩) (fun hn => ?_))
  refine W.bind (next_w h (by omega)) fun t ht => W.di (fun _ => W.bind (next_w ht.2 (by omega)) fun u hu => W.e (by omega) (W.ret ⟨?_, hu.2.le (by omega)⟩)) (fun _ => W.e (by omega) (W.ret ⟨?_, ht.2.le (by omega)⟩))
  · have h1 := ht.1; have h2 := hu.1
    rw [w64 (i := t.1 * 256) (by omega) (by omega), w64 (by omega) (by omega)]
    exact ⟨Int.tmod_nonneg _ (by omega), .inr (Int.tmod_lt_of_pos _ (by omega))⟩
  · exact ⟨Int.tmod_nonneg _ (by omega), .inr (Int.tmod_lt_of_pos _ (by omega))⟩
theorem from_w {c : List Int} (h : ∀ b ∈ c, 0 ≤ b ∧ b ≤ 255) : W (fun k _ => spec_l00From.f k c) (fun r => Sr r.1 r.2.1 0) :=
  spec_l00From.w (W.ret ⟨h, by simp⟩)
end Go.Proofs.Ytigkpbnhdkdliaa.R
