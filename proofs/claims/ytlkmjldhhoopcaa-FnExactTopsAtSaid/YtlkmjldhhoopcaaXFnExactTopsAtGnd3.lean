/- The ground: the tops at a ring. -/
import Derived.Test.YtlkmjldhhoopcaaXFnExactTopsAtGnd2
namespace Go.Proofs.Ytlkmjldhhoopcaa.R
open Go.Rv Go.Rv.Ax
set_option linter.unusedVariables false
set_option linter.unusedSimpArgs false
theorem floor_eq (k : Nat) (a b : Int) (hb : 1 ≤ b ∧ b ≤ 1000) (ha : -100000000000 ≤ a ∧ a ≤ 100000000000) : impl_floorOf.f k a b = some (a / b) := by
  have h1 := Int.mul_tdiv_add_tmod a b
  have h2 : a.tmod b < b := Int.tmod_lt_of_pos a (by omega)
  have h3 : -b < a.tmod b := by
    rcases Int.le_total 0 a with h | h
    · have := Int.tmod_nonneg b h; omega
    · have e : a.tmod b = -((-a).tmod b) := by rw [Int.neg_tmod]; omega
      have := Int.tmod_lt_of_pos (-a) (show 0 < b by omega)
      omega
  have hq : -100000000001 ≤ a.tdiv b ∧ a.tdiv b ≤ 100000000001 := by
    have := Int.natAbs_tdiv_le_natAbs a b
    omega
  unfold impl_floorOf.f
  rw [if_neg (by omega), if_neg (by omega), w64 (i := a.tdiv b) (by omega) (by omega), w64 (i := a.tdiv b - 1) (by omega) (by omega)]
  by_cases hm : a.tmod b < 0
  · rw [if_pos (by simpa using hm)]
    have := ((Int.ediv_emod_unique (a := a) (b := b) (q := a.tdiv b - 1) (r := a.tmod b + b) (by omega)).2 ⟨by rw [Int.mul_sub, Int.mul_one]; omega, by omega, by omega⟩).1
    rw [this]
  · rw [if_neg (by simpa using hm)]
    have := ((Int.ediv_emod_unique (a := a) (b := b) (q := a.tdiv b) (r := a.tmod b) (by omega)).2 ⟨by omega, by omega, by omega⟩).1
    rw [this]
/-- between two tops -/
def mid (a b e d : Int) : Int := a + ((b - a) * e) / d
theorem mid_mono {a b a' b' e d : Int} (ha : a ≤ a') (hb : b ≤ b') (he : 0 ≤ e ∧ e ≤ d) (hd : 0 < d) : mid a b e d ≤ mid a' b' e d := by
  have key : ∀ x y : Int, mid x y e d = (x * (d - e) + y * e) / d := by
    intro x y
    unfold mid
    rw [Int.add_comm, ← Int.add_mul_ediv_right _ _ (show d ≠ 0 by omega)]
    congr 1
    rw [Int.sub_mul, Int.mul_sub]; omega
  rw [key, key]
  refine Int.ediv_le_ediv hd ?_
  have h1 := Int.mul_le_mul_of_nonneg_right ha (show 0 ≤ d - e by omega)
  have h2 := Int.mul_le_mul_of_nonneg_right hb he.1
  omega
theorem mid_same (a e d : Int) : mid a a e d = a := by simp [mid]
theorem mid_within {a b e d lo hi : Int} (ha : lo ≤ a ∧ a ≤ hi) (hb : lo ≤ b ∧ b ≤ hi) (he : 0 ≤ e ∧ e ≤ d) (hd : 0 < d) : lo ≤ mid a b e d ∧ mid a b e d ≤ hi := by
  have h1 := mid_mono (a := lo) (b := lo) ha.1 hb.1 he hd
  have h2 := mid_mono (a' := hi) (b' := hi) ha.2 hb.2 he hd
  rw [mid_same] at h1 h2
  exact ⟨h1, h2⟩
def topsGo (prev : Option Ho) : List Ho → Int → List Int
  | [], r => match prev with
    | some p => p.2
    | none => []
  | h :: t, r => if r ≤ h.1 then (match prev with
      | none => h.2
      | some p => if h.1 = r then h.2 else List.zipWith (fun a b => mid a b (r - p.1) (h.1 - p.1)) p.2 h.2) else topsGo (some h) t r
/-- the first hole that is not in front of a ring -/
theorem behind_w (H : List Ho) (r : Int) (hl : H.length ≤ 1000) : W (fun k _ => slices_IndexFunc_Hole_Ground_tops_1.f k H r) (fun (i : Int) => (i = -1 ∧ ∀ h ∈ H, h.1 < r) ∨ ∃ A h B, H = A ++ h :: B ∧ i = (A.length : Int) ∧ r ≤ h.1 ∧ ∀ g ∈ A, g.1 < r) := by
  refine slices_IndexFunc_Hole_Ground_tops_1.w ?_
  have key : ∀ (rest pre : List Ho), H = pre ++ rest → (∀ g ∈ pre, g.1 < r) → W (fun k i => (slices_IndexFunc_Hole_Ground_tops_1.cs k i) H r (H.length : Int) (pre.length : Int)) (fun (i : Int) => (i = -1 ∧ ∀ h ∈ H, h.1 < r) ∨ ∃ A h B, H = A ++ h :: B ∧ i = (A.length : Int) ∧ r ≤ h.1 ∧ ∀ g ∈ A, g.1 < r) := by
    intro rest
    induction rest with
    | nil =>
      intro pre e hp
      refine slices_IndexFunc_Hole_Ground_tops_1.w0 (W.de (by rw [e]; simp) (W.ret (.inl ⟨rfl, fun h hh => hp h (by rw [e] at hh; simpa using hh)⟩)))
    | cons x rest ih =>
      intro pre e hp
      have hlen : H.length = pre.length + (rest.length + 1) := by rw [e]; simp
      have hx : rd (0, []) H (pre.length : Int) = x := by rw [e]; exact rd_mid _ _ _
      refine slices_IndexFunc_Hole_Ground_tops_1.w0 (W.dt (by omega) (W.t (by omega) (W.t (by omega) ?_)))
      rw [hx, w64 (by omega) (by omega)]
      refine W.bindN (t := decide (r ≤ x.1)) (fun k => rfl) (W.di (fun h => W.ret (.inr ⟨pre, x, rest, e, rfl, h, hp⟩)) (fun h => ?_))
      have := ih (pre ++ [x]) (by simp [e]) (fun g hg => by
        rcases List.mem_append.1 hg with hg | hg
        · exact hp g hg
        · simp at hg; subst hg; omega)
      rw [show ((pre ++ [x]).length : Int) = (pre.length : Int) + 1 by simp] at this
      exact this
  exact key H [] rfl (by simp)
end Go.Proofs.Ytlkmjldhhoopcaa.R
