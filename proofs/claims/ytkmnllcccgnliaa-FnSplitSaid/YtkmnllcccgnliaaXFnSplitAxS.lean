/- Splitting an axis: what the program's and the reference's functions answer. -/
import Derived.Test.YtkmnllcccgnliaaXFnSplitAxT
import Derived.Test.YtkmnllcccgnliaaXFnSplitAxS1
namespace Go.Proofs.Ytkmnllcccgnliaa.R
open Go.Rv Go.Rv.Ax
set_option linter.unusedVariables false
set_option linter.unusedSimpArgs false
def cut1 (n : Int) (c : Cu) : Int := if n < c.1 then n else c.1
/-- the curves of both parts -/
def splitL : Int → List Cu → List Cu × List Cu
  | _, [] => ([], [])
  | n, c :: l => ((if 0 < cut1 n c then [(cut1 n c, c.2)] else []) ++ (splitL (n - cut1 n c) l).1, (if cut1 n c < c.1 then [(c.1 - cut1 n c, c.2)] else []) ++ (splitL (n - cut1 n c) l).2)
theorem splitL_length : ∀ (l : List Cu) (n : Int), (splitL n l).1.length ≤ l.length ∧ (splitL n l).2.length ≤ l.length
  | [], _ => ⟨Nat.le_refl _, Nat.le_refl _⟩
  | c :: l, n => by
    have := splitL_length l (n - cut1 n c)
    simp only [splitL, List.length_append, List.length_cons]
    constructor
    · split <;> simp <;> omega
    · split <;> simp <;> omega
abbrev SpR := Int × Int × Int × Int × List Cu × Int × Int × Int × Int × List Cu × Bool
def sp11 (p : Po) (X : List Cu) (q : Po) (Y : List Cu) : SpR := (p.1, p.2.1, p.2.2.1, p.2.2.2, X, q.1, q.2.1, q.2.2.1, q.2.2.2, Y, true)
def bad11 : SpR := (0, 0, 0, 0, [], 0, 0, 0, 0, [], false)
def splitV (p : Po) (l : List Cu) (n : Int) : SpR := if Ok p l ∧ 1 ≤ n ∧ n < ((tl l).length : Int) then sp11 p (splitL n l).1 (rd (0, (0, (0, 0))) (poses p l) n) (splitL n l).2 else bad11
theorem min_eq (k : Nat) (n : Int) (c : Cu) : spec_l00Min.f k n c.1 = some (cut1 n c) := by
  unfold spec_l00Min.f cut1
  by_cases h : n < c.1 <;> simp [h]
theorem specSplit_w (p : Po) (l : List Cu) (n : Int) (hn : -9223372036854775808 ≤ n ∧ n ≤ 9223372036854775807) : W (fun k _ => spec_SplitAxis.f k p.1 p.2.1 p.2.2.1 p.2.2.2 l n) (· = splitV p l n) := by
  refine spec_SplitAxis.w (W.bindE (specIs_w p l) ?_)
  refine W.ni (fun h => W.ret ?_) (fun h => ?_)
  · rw [splitV, if_neg (fun e => by simp [e.1] at h)]; rfl
  have h : Ok p l := of_decide_eq_true h
  have hlen := h.len
  refine W.bindE (specRings_w h) ?_
  rw [w64 (by omega) (by omega)]
  refine W.bindN (fun k => l00In_eq k _ _ _) ?_
  refine W.ni (fun hb => W.ret ?_) (fun hb => ?_)
  · rw [splitV, if_neg]; · rfl
    rintro ⟨_, h2⟩; rw [inR_no] at hb; omega
  have hb := inR_iff.1 hb
  rw [splitV, if_pos ⟨h, by omega⟩]
  have hpl := poses_length p l
  refine spec_SplitAxis.w0 (W.bindE (specPoses_w h) (W.t (by omega) (W.t (by omega) ?_)))
  generalize rd (0, (0, (0, 0))) (poses p l) n = q
  have hcs := (Ok_small h).2
  have h8 := h.2.1
  have key : ∀ (rest pre X Y : List Cu) (m : Int), l = pre ++ rest → 0 ≤ m → m ≤ 1000 → X.length ≤ pre.length → Y.length ≤ pre.length →
      W (fun k j => (spec_SplitAxis.cs k j).2.1 p.1 p.2.1 p.2.2.1 p.2.2.2 l 0 0 0 0 0 0 0 0 p.1 p.2.1 p.2.2.1 p.2.2.2 X q.1 q.2.1 q.2.2.1 q.2.2.2 Y m (pre.length : Int)) (· = sp11 p (X ++ (splitL m rest).1) q (Y ++ (splitL m rest).2)) := by
    intro rest
    induction rest with
    | nil =>
      intro pre X Y m e _ _ _ _
      exact spec_SplitAxis.w1 (W.de (by rw [e]; simp) (W.ret (by simp [splitL, sp11])))
    | cons c rest ih =>
      intro pre X Y m e h0 h1 hX hY
      have hll : l.length = pre.length + (rest.length + 1) := by rw [e]; simp
      have hx : rd (0, (0, 0)) l (pre.length : Int) = c := by rw [e]; exact rd_mid _ _ _
      have hc := hcs c (by rw [e]; simp)
      have hf : 0 ≤ cut1 m c ∧ cut1 m c ≤ m ∧ cut1 m c ≤ c.1 := by unfold cut1; split <;> omega
      have hm := ih (pre ++ [c])
      refine spec_SplitAxis.w1 (W.dt (by omega) (W.t (by omega) (W.t (by omega) ?_)))
      rw [hx]
      refine W.bindN (fun k => min_eq k m c) ?_
      have ew : wrap64 ((pre.length : Int) + 1) = ((pre ++ [c]).length : Int) := by rw [w64 (by omega) (by omega)]; simp
      have behind : ∀ (X' : List Cu), X'.length ≤ (pre ++ [c]).length → W (fun k j => (spec_SplitAxis.cs k j).2.2 p.1 p.2.1 p.2.2.1 p.2.2.2 l 0 0 0 0 0 0 0 0 p.1 p.2.1 p.2.2.1 p.2.2.2 X' q.1 q.2.1 q.2.2.1 q.2.2.2 Y m (pre.length : Int) c.1 c.2.1 c.2.2 (cut1 m c)) (· = sp11 p (X' ++ (splitL (m - cut1 m c) rest).1) q (Y ++ ((if cut1 m c < c.1 then [(c.1 - cut1 m c, c.2)] else []) ++ (splitL (m - cut1 m c) rest).2))) := by
        intro X' hX'
        refine spec_SplitAxis.w2 ?_
        rw [ew, w64 (i := c.1 - cut1 m c) (by omega) (by omega), w64 (i := m - cut1 m c) (by omega) (by omega)]
        refine W.di (fun hd => W.t (by omega) ?_) (fun hd => ?_)
        · have := hm X' (Y ++ [(c.1 - cut1 m c, c.2)]) (m - cut1 m c) (by simp [e]) (by omega) (by omega) hX' (by simp; omega)
          rw [if_pos hd, ← List.append_assoc]; exact this
        · have := hm X' Y (m - cut1 m c) (by simp [e]) (by omega) (by omega) hX' (by simp; omega)
          rw [if_neg hd]; exact this
      simp only [splitL]
      refine W.di (fun hd => W.t (by omega) ?_) (fun hd => ?_)
      · rw [if_pos hd, ← List.append_assoc]
        exact behind (X ++ [(cut1 m c, c.2)]) (by simp; omega)
      · rw [if_neg hd]
        exact behind X (by simp; omega)
  exact key l [] [] [] n rfl (by omega) (by omega) (Nat.le_refl _) (Nat.le_refl _)
theorem implSplit_w (p : Po) (l : List Cu) (n : Int) (hn : -9223372036854775808 ≤ n ∧ n ≤ 9223372036854775807) : W (fun k _ => impl_SplitAxis.f k p.1 p.2.1 p.2.2.1 p.2.2.2 l n) (· = splitV p l n) := by
  refine impl_SplitAxis.w (W.bindE (implPoses_w p l) ?_)
  by_cases h : Ok p l
  case neg =>
    rw [posesV_no h, splitV, if_neg fun e => h e.1]
    exact W.nt rfl (W.ret rfl)
  rw [posesV_ok h]
  have hlen := h.len
  have hpl := poses_length p l
  refine W.ne rfl ?_
  dsimp only
  rw [w64 (by omega) (by omega)]
  refine W.bindN (fun k => within_eq k _ _ _) ?_
  refine W.ni (fun hb => W.ret ?_) (fun hb => ?_)
  · rw [splitV, if_neg]; · rfl
    rintro ⟨_, h2⟩; rw [inR_no] at hb; omega
  have hb := inR_iff.1 hb
  rw [splitV, if_pos ⟨h, by omega⟩]
  refine impl_SplitAxis.w0 (W.t (by omega) (W.t (by omega) ?_))
  generalize rd (0, (0, (0, 0))) (poses p l) n = q
  have hcs := (Ok_small h).2
  have h8 := h.2.1
  have key : ∀ (rest pre X Y : List Cu) (m : Int), l = pre ++ rest → 0 ≤ m → m ≤ 1000 → X.length ≤ pre.length → Y.length ≤ pre.length →
      W (fun k j => (impl_SplitAxis.cs k j).2.1 m 0 0 0 0 0 0 0 0 p.1 p.2.1 p.2.2.1 p.2.2.2 X q.1 q.2.1 q.2.2.1 q.2.2.2 Y l (l.length : Int) (pre.length : Int)) (· = sp11 p (X ++ (splitL m rest).1) q (Y ++ (splitL m rest).2)) := by
    intro rest
    induction rest with
    | nil =>
      intro pre X Y m e _ _ _ _
      exact impl_SplitAxis.w1 (W.de (by rw [e]; simp) (W.ret (by simp [splitL, sp11])))
    | cons c rest ih =>
      intro pre X Y m e h0 h1 hX hY
      have hll : l.length = pre.length + (rest.length + 1) := by rw [e]; simp
      have hx : rd (0, (0, 0)) l (pre.length : Int) = c := by rw [e]; exact rd_mid _ _ _
      have hc := hcs c (by rw [e]; simp)
      have hf : 0 ≤ cut1 m c ∧ cut1 m c ≤ m ∧ cut1 m c ≤ c.1 := by unfold cut1; split <;> omega
      have hm := ih (pre ++ [c])
      refine impl_SplitAxis.w1 (W.dt (by omega) (W.t (by omega) (W.t (by omega) ?_)))
      rw [hx]
      have ew : wrap64 ((pre.length : Int) + 1) = ((pre ++ [c]).length : Int) := by rw [w64 (by omega) (by omega)]; simp
      have behind : ∀ (X' : List Cu), X'.length ≤ (pre ++ [c]).length → W (fun k j => (impl_SplitAxis.cs k j).2.2 m 0 0 0 0 0 0 0 0 p.1 p.2.1 p.2.2.1 p.2.2.2 X' q.1 q.2.1 q.2.2.1 q.2.2.2 Y c.1 c.2.1 c.2.2 (cut1 m c) l (l.length : Int) (pre.length : Int)) (· = sp11 p (X' ++ (splitL (m - cut1 m c) rest).1) q (Y ++ ((if cut1 m c < c.1 then [(c.1 - cut1 m c, c.2)] else []) ++ (splitL (m - cut1 m c) rest).2))) := by
        intro X' hX'
        refine impl_SplitAxis.w2 ?_
        rw [ew, w64 (i := c.1 - cut1 m c) (by omega) (by omega), w64 (i := m - cut1 m c) (by omega) (by omega)]
        refine W.di (fun hd => W.t (by omega) ?_) (fun hd => ?_)
        · have := hm X' (Y ++ [(c.1 - cut1 m c, c.2)]) (m - cut1 m c) (by simp [e]) (by omega) (by omega) hX' (by simp; omega)
          rw [if_pos hd, ← List.append_assoc]; exact this
        · have := hm X' Y (m - cut1 m c) (by simp [e]) (by omega) (by omega) hX' (by simp; omega)
          rw [if_neg hd]; exact this
      simp only [splitL]
      show W (fun k j => if decide (0 < cut1 m c) = true then _ else _) _
      refine W.di (fun hd => W.t (by omega) ?_) (fun hd => ?_)
      · rw [if_pos hd, ← List.append_assoc]
        exact behind (X ++ [(cut1 m c, c.2)]) (by simp; omega)
      · rw [if_neg hd]
        exact behind X (by simp; omega)
  exact key l [] [] [] n rfl (by omega) (by omega) (Nat.le_refl _) (Nat.le_refl _)
end Go.Proofs.Ytkmnllcccgnliaa.R
