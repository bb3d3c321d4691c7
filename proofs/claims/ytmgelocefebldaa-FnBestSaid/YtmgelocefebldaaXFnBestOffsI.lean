/- Rings along an axis: offsets and squares (the program). -/
import Derived.Test.YtmgelocefebldaaXFnBestRngP
import Derived.Test.YtmgelocefebldaaXFnBestAxW
namespace Go.Proofs.Ytmgelocefebldaa.R
open Go.Rv Go.Rv.Ax
set_option linter.unusedVariables false
set_option linter.unusedSimpArgs false
def off (own ax : List Po) (b : Int) (i : Nat) : List Int := [(rd (0, (0, (0, 0))) own ((i : Int) + 1)).1 - (rd (0, (0, (0, 0))) ax (b + (i : Int) + 1)).1, (rd (0, (0, (0, 0))) own ((i : Int) + 1)).2.1 - (rd (0, (0, (0, 0))) ax (b + (i : Int) + 1)).2.1]
def offL (own ax : List Po) (b : Int) (n : Nat) : List (List Int) := (List.range n).map (off own ax b)
def okOff (p : Po) (l : List Cu) (b : Int) (s : Po) (t : List Ri) : Bool := decide (Ok p l) && ((tubePV s t).2 && (decide (0 ≤ b) && decide (b + (t.length : Int) ≤ ((tl l).length : Int))))
def offV (p : Po) (l : List Cu) (b : Int) (s : Po) (t : List Ri) : List (List Int) × Bool := if okOff p l b s t then (offL (tubePV s t).1 (poses p l) b t.length, true) else ([], false)
theorem offL_length (own ax : List Po) (b : Int) (n : Nat) : (offL own ax b n).length = n := by simp [offL]
theorem offL_succ (own ax : List Po) (b : Int) (n : Nat) : offL own ax b (n + 1) = offL own ax b n ++ [off own ax b n] := by simp [offL, List.range_succ]
theorem rd_okP {L : List Po} (h : ∀ q ∈ L, okP q = true) {i : Int} (h0 : 0 ≤ i) (h1 : i < (L.length : Int)) : okP (rd (0, (0, (0, 0))) L i) = true := by
  rw [rd_ofNat h0 (by omega)]
  exact h _ (List.getElem_mem _)
theorem okOff_iff {p : Po} {l : List Cu} {b : Int} {s : Po} {t : List Ri} : okOff p l b s t = true ↔ Ok p l ∧ (tubePV s t).2 = true ∧ 0 ≤ b ∧ b + (t.length : Int) ≤ ((tl l).length : Int) := by simp [okOff]
theorem implOff_w (p : Po) (l : List Cu) (b : Int) (s : Po) (t : List Ri) (hl : t.length ≤ 1048576) : W (fun k _ => impl_OffsetsBehind.f k p.1 p.2.1 p.2.2.1 p.2.2.2 l b s.1 s.2.1 s.2.2.1 s.2.2.2 t) (· = offV p l b s t) := by
  refine impl_OffsetsBehind.w (W.bindE (implPoses_w p l) (W.bindE (implTubePosesV_w s t hl) ?_))
  have no : okOff p l b s t ≠ true → offV p l b s t = ([], false) := fun h => by unfold offV; rw [if_neg h]
  by_cases h1 : Ok p l
  case neg =>
    rw [posesV_no h1]
    exact W.nt rfl (W.ret (no fun h => h1 (okOff_iff.1 h).1).symm)
  rw [posesV_ok h1]
  refine W.ne rfl ?_
  by_cases h2 : (tubePV s t).2 = true
  case neg => exact W.nt (by simpa using h2) (W.ret (no fun h => h2 (okOff_iff.1 h).2.1).symm)
  refine W.ne h2 ?_
  have hpl := poses_length p l
  have hlen := h1.len
  dsimp only
  rw [w64 (i := ((poses p l).length : Int) - 1) (by omega) (by omega)]
  refine W.bindN (fun k => within_eq k _ _ _) ?_
  by_cases h3 : 0 ≤ b ∧ b ≤ ((poses p l).length : Int) - 1
  case neg => exact W.nt (inR_no.2 h3) (W.ret (no fun h => h3 (by have := (okOff_iff.1 h).2.2; omega)).symm)
  refine W.ne (inR_iff.2 h3) ?_
  have hT := tubeV_ok h2
  have h60 := hT.t60
  rw [w64 (i := b + (t.length : Int)) (by omega) (by omega)]
  refine W.di (fun h4 => W.ret (no fun h => by have := (okOff_iff.1 h).2.2; omega).symm) (fun h4 => impl_OffsetsBehind.w0 ?_)
  have hv : offV p l b s t = (offL (tubePV s t).1 (poses p l) b t.length, true) := by
    unfold offV; rw [if_pos (okOff_iff.2 ⟨h1, h2, h3.1, by omega⟩)]
  rw [hv]
  have hx := h1.poses
  have hol := hT.len
  have hok := hT.ok
  generalize poses p l = ax at *
  generalize (tubePV s t).1 = own at *
  have key : ∀ (d i : Nat), t.length = i + d → W (fun k m => (impl_OffsetsBehind.cs k m).2 b ax own (offL own ax b i) (t.length : Int) (i : Int)) (· = (offL own ax b t.length, true)) := by
    intro d
    induction d with
    | zero =>
      intro i e
      exact impl_OffsetsBehind.w1 (W.de (by omega) (W.ret (by rw [e]; simp)))
    | succ d ih =>
      intro i e
      have a1 := okP_iff.1 (rd_okP hok (i := (i : Int) + 1) (by omega) (by omega))
      have a2 := okP_iff.1 (rd_okP hx (i := b + (i : Int) + 1) (by omega) (by omega))
      have := ih (i + 1) (by omega)
      rw [offL_succ] at this
      refine impl_OffsetsBehind.w1 (W.dt (by omega) ?_)
      rw [w64 (i := b + (i : Int)) (by omega) (by omega), w64 (i := b + (i : Int) + 1) (by omega) (by omega), w64 (i := (i : Int) + 1) (by omega) (by omega), w64 (i := (rd (0, (0, (0, 0))) own ((i : Int) + 1)).1 - (rd (0, (0, (0, 0))) ax (b + (i : Int) + 1)).1) (by omega) (by omega), w64 (i := (rd (0, (0, (0, 0))) own ((i : Int) + 1)).2.1 - (rd (0, (0, (0, 0))) ax (b + (i : Int) + 1)).2.1) (by omega) (by omega)]
      exact W.t (by omega) (W.t (by omega) (W.t (by omega) (W.t (by omega) (W.t (by rw [offL_length]; omega) this))))
  exact key t.length 0 (by omega)
/-! ### squares -/
def sq1 (x : List Int) : Int := rd 0 x 0 * rd 0 x 0 + rd 0 x 1 * rd 0 x 1
def sqs : List (List Int) → Int
  | [] => 0
  | x :: r => sq1 x + sqs r
def two (x : List Int) : Prop := x.length = 2 ∧ (-200000 ≤ rd 0 x 0 ∧ rd 0 x 0 ≤ 200000) ∧ (-200000 ≤ rd 0 x 1 ∧ rd 0 x 1 ≤ 200000)
theorem offL_two {own ax : List Po} {b : Int} {n : Nat} (h1 : ∀ q ∈ own, okP q = true) (h2 : ∀ q ∈ ax, okP q = true) (hn : n < own.length) (hb : 0 ≤ b ∧ b + (n : Int) < (ax.length : Int)) : ∀ x ∈ offL own ax b n, two x := by
  intro x hx
  simp only [offL, List.mem_map, List.mem_range] at hx
  obtain ⟨i, hi, rfl⟩ := hx
  have a1 := okP_iff.1 (rd_okP h1 (i := (i : Int) + 1) (by omega) (by omega))
  have a2 := okP_iff.1 (rd_okP h2 (i := b + (i : Int) + 1) (by omega) (by omega))
  refine ⟨rfl, ?_, ?_⟩
  · show -200000 ≤ (rd (0, (0, (0, 0))) own ((i : Int) + 1)).1 - (rd (0, (0, (0, 0))) ax (b + (i : Int) + 1)).1 ∧ _
    exact ⟨by omega, by show (rd (0, (0, (0, 0))) own ((i : Int) + 1)).1 - (rd (0, (0, (0, 0))) ax (b + (i : Int) + 1)).1 ≤ _; omega⟩
  · show -200000 ≤ (rd (0, (0, (0, 0))) own ((i : Int) + 1)).2.1 - (rd (0, (0, (0, 0))) ax (b + (i : Int) + 1)).2.1 ∧ _
    exact ⟨by omega, by show (rd (0, (0, (0, 0))) own ((i : Int) + 1)).2.1 - (rd (0, (0, (0, 0))) ax (b + (i : Int) + 1)).2.1 ≤ _; omega⟩
theorem offV_two {p : Po} {l : List Cu} {b : Int} {s : Po} {t : List Ri} : (offV p l b s t).1.length ≤ 60 ∧ ∀ x ∈ (offV p l b s t).1, two x := by
  unfold offV
  split
  · rename_i h
    obtain ⟨h1, h2, h3, h4⟩ := okOff_iff.1 h
    have hT := tubeV_ok h2
    have hpl := poses_length p l
    have h60 := hT.t60
    have hl := hT.len
    exact ⟨by simp only [offL_length]; omega, offL_two hT.ok h1.poses (by omega) (by omega)⟩
  · exact ⟨by simp, by simp⟩
theorem sq_bd {a : Int} (h : -200000 ≤ a ∧ a ≤ 200000) : 0 ≤ a * a ∧ a * a ≤ 40000000000 := by
  rcases Int.le_total 0 a with h0 | h0
  · exact ⟨Int.mul_nonneg h0 h0, by have := Int.mul_le_mul h.2 h.2 h0 (by omega : (0 : Int) ≤ 200000); omega⟩
  · rw [← Int.neg_mul_neg]
    have h1 : 0 ≤ -a := by omega
    have h2 : -a ≤ 200000 := by omega
    exact ⟨Int.mul_nonneg h1 h1, by have := Int.mul_le_mul h2 h2 h1 (by omega : (0 : Int) ≤ 200000); omega⟩
theorem sq1_bd {x : List Int} (h : two x) : 0 ≤ sq1 x ∧ sq1 x ≤ 80000000000 := by
  have h1 := sq_bd h.2.1
  have h2 := sq_bd h.2.2
  unfold sq1; omega
theorem sq1_eq {x : List Int} (h : two x) : wrap64 (wrap64 (rd 0 x 0 * rd 0 x 0) + wrap64 (rd 0 x 1 * rd 0 x 1)) = sq1 x := by
  have h1 := sq_bd h.2.1
  have h2 := sq_bd h.2.2
  rw [w64 (i := rd 0 x 0 * rd 0 x 0) (by omega) (by omega), w64 (i := rd 0 x 1 * rd 0 x 1) (by omega) (by omega), w64 (by omega) (by omega)]
  rfl
def sqV (p : Po) (l : List Cu) (b : Int) (s : Po) (t : List Ri) : Int × Bool := if (offV p l b s t).2 then (sqs (offV p l b s t).1, true) else (0, false)
end Go.Proofs.Ytmgelocefebldaa.R
