/- The program's PlanBoth answers what the reference's does, for all arguments, and its result is new memory: the plain statement. -/
import Derived.Test.YtigkpbnhdkdliaaXFnExactPlanBothStS
import Derived.Test.YtigkpbnhdkdliaaXFnExactPlanBothSs
import Derived.Test.YtigkpbnhdkdliaaRvPuFnExactPlanBoth
namespace Go.Proofs.Ytigkpbnhdkdliaa.Pure
open Go.Rv Go.Rv.St R
set_option linter.unusedVariables false
set_option linter.unusedSimpArgs false
def rowAt (a b : List Int) (i : Nat) : List Int := [if i < a.length then rd 0 a (i : Int) else 0, if i < b.length then rd 0 b (i : Int) else 0]
def rowsTo (a b : List Int) (n : Nat) : List (List Int) := (List.range n).map (rowAt a b)
theorem rowsTo_succ (a b : List Int) (n : Nat) : rowsTo a b (n + 1) = rowsTo a b n ++ [rowAt a b n] := by simp [rowsTo, List.range_succ]
theorem rowsTo_length (a b : List Int) (n : Nat) : (rowsTo a b n).length = n := by simp [rowsTo]
noncomputable def bothV (M H : Int) (c d : C) : List (List Int) × Bool :=
  if (limB M H && ins M c) = true ∧ (limB M H && ins M d) = true then
    (if (planV M H c).2 = true ∧ (planV M H d).2 = true then (rowsTo (planV M H c).1 (planV M H d).1 (max (planV M H c).1.length (planV M H d).1.length), true) else ([], false))
  else ([], false)
theorem row1 {a b : List Int} {i : Nat} {x : List Int} (hx : x = [if i < a.length then rd 0 a (i : Int) else 0, 0]) (h : i < b.length) : x.set 1 (rd 0 b (i : Int)) = rowAt a b i := by subst hx; simp [rowAt, h]
theorem row2 {a b : List Int} {i : Nat} {x : List Int} (hx : x = [if i < a.length then rd 0 a (i : Int) else 0, 0]) (h : ¬i < b.length) : x = rowAt a b i := by subst hx; simp [rowAt, h]
theorem bothI_rows (a b : List Int) (ha : a.length ≤ 40) (hb : b.length ≤ 40) : W (fun k m => (impl_PlanBoth.cs k m).1 a b) (· = (rowsTo a b (max a.length b.length), true)) := by
  refine impl_PlanBoth.w0 ?_
  rw [show (if (a.length : Int) < (b.length : Int) then (b.length : Int) else (a.length : Int)) = ((max a.length b.length : Nat) : Int) by split <;> omega]
  have key : ∀ (d i : Nat), max a.length b.length = i + d → W (fun k m => (impl_PlanBoth.cs k m).2.1 a b (rowsTo a b i) ((max a.length b.length : Nat) : Int) (i : Int)) (· = (rowsTo a b (max a.length b.length), true)) := by
    intro d
    induction d with
    | zero => intro i e; exact impl_PlanBoth.w1 (W.de (by omega) (W.ret (by rw [e]; simp)))
    | succ d ih =>
      intro i e
      have hl := rowsTo_length a b i
      have next := ih (i + 1) (by omega)
      rw [rowsTo_succ] at next
      have k2 : ∀ x : List Int, x = [if i < a.length then rd 0 a (i : Int) else 0, 0] → W (fun k m => (impl_PlanBoth.cs k m).2.2 a b (rowsTo a b i) (i : Int) x ((max a.length b.length : Nat) : Int) (i : Int)) (· = (rowsTo a b (max a.length b.length), true)) := by
        intro x hx
        have hxl : x.length = 2 := by rw [hx]; rfl
        refine impl_PlanBoth.w2 (W.di (fun h => W.t (by omega) (W.t (by omega) (W.t (by omega) (W.t (by omega) (W.t (by omega) ?_))))) (fun h => W.t (by omega) ?_))
        · rw [w64 (by omega) (by omega), row1 hx (by omega)]
          exact next
        · rw [w64 (by omega) (by omega)]
          rw [← row2 hx (b := b) (by omega)] at next
          exact next
      refine impl_PlanBoth.w1 (W.dt (by omega) (W.di (fun h => W.t (by omega) (W.t (by omega) (W.t (by omega) (W.t (by omega) (k2 _ ?_))))) (fun h => k2 _ ?_)))
      · rw [if_pos (by omega)]; rfl
      · rw [if_neg (by omega)]
  exact key (max a.length b.length) 0 (by omega)
theorem bothS_rows (a b : List Int) (ha : a.length ≤ 40) (hb : b.length ≤ 40) : W (fun k m => (spec_PlanBoth.cs k m).2.1 a b) (· = (rowsTo a b (max a.length b.length), true)) := by
  refine spec_PlanBoth.w1 ?_
  have key : ∀ (d i : Nat), max a.length b.length = i + d → W (fun k m => (spec_PlanBoth.cs k m).2.2.1 a b (rowsTo a b i) (i : Int)) (· = (rowsTo a b (max a.length b.length), true)) := by
    intro d
    induction d with
    | zero => intro i e; exact spec_PlanBoth.w2 (W.de (by omega) (W.de (by omega) (W.ret (by rw [e]; simp))))
    | succ d ih =>
      intro i e
      have hl := rowsTo_length a b i
      have next := ih (i + 1) (by omega)
      rw [rowsTo_succ] at next
      have k2 : ∀ x : List Int, x = [if i < a.length then rd 0 a (i : Int) else 0, 0] → W (fun k m => (spec_PlanBoth.cs k m).2.2.2.2 a b (rowsTo a b i) (i : Int) x) (· = (rowsTo a b (max a.length b.length), true)) := by
        intro x hx
        have hxl : x.length = 2 := by rw [hx]; rfl
        refine spec_PlanBoth.w4 (W.di (fun h => W.t (by omega) (W.t (by omega) (W.t (by omega) (W.t (by omega) (W.t (by omega) ?_))))) (fun h => W.t (by omega) ?_))
        · rw [w64 (by omega) (by omega), row1 hx (by omega)]
          exact next
        · rw [w64 (by omega) (by omega)]
          rw [← row2 hx (b := b) (by omega)] at next
          exact next
      have k3 : W (fun k m => (spec_PlanBoth.cs k m).2.2.2.1 a b (rowsTo a b i) (i : Int)) (· = (rowsTo a b (max a.length b.length), true)) := by
        refine spec_PlanBoth.w3 (W.di (fun h => W.t (by omega) (W.t (by omega) (W.t (by omega) (W.t (by omega) (k2 _ ?_))))) (fun h => k2 _ ?_))
        · rw [if_pos (by omega)]; rfl
        · rw [if_neg (by omega)]
      exact spec_PlanBoth.w2 (W.di (fun h => k3) (fun h => W.dt (by omega) k3))
  exact key (max a.length b.length) 0 (by omega)
theorem bothI_w (M H : Int) (c d : C) : W (fun k _ => impl_PlanBoth.f k M H c.1 c.2.1 c.2.2 d.1 d.2.1 d.2.2) (· = bothV M H c d) := by
  refine impl_PlanBoth.w (W.bindE (planHomeI_w M H c) (W.bindE (planHomeI_w M H d) ?_))
  unfold bothV
  cases hc : (limB M H && ins M c) with
  | false => exact W.nt (by simp) (W.ret (by simp))
  | true =>
    simp only [if_true]
    refine W.ni (fun h => W.ret (by simp [h])) (fun h => ?_)
    cases hd : (limB M H && ins M d) with
    | false => exact W.nt (by simp) (W.ret (by simp))
    | true =>
      simp only [if_true]
      refine W.ni (fun h' => W.ret (by simp [h'])) (fun h' => ?_)
      simp only [Bool.and_eq_true] at hc hd
      have hL := lim_iff.1 hc.1
      simp only [h, h', and_self, if_true]
      exact bothI_rows _ _ (planV_len hL c) (planV_len hL d)
theorem bothS_w (M H : Int) (c d : C) : W (fun k _ => spec_PlanBoth.f k M H c.1 c.2.1 c.2.2 d.1 d.2.1 d.2.2) (· = bothV M H c d) := by
  refine spec_PlanBoth.w (W.bindE (isS_w M H c) ?_)
  unfold bothV
  cases hc : (limB M H && ins M c) with
  | false => exact W.nt (by simp) (W.ret (by simp))
  | true =>
    refine W.ne rfl (W.bindE (isS_w M H d) ?_)
    cases hd : (limB M H && ins M d) with
    | false => exact W.nt (by simp) (W.ret (by simp))
    | true =>
      simp only [Bool.and_eq_true] at hc hd
      have hL := lim_iff.1 hc.1
      refine W.ne rfl (spec_PlanBoth.w0 (W.bindE (planS_w hL hc.2) (W.bindE (planS_w hL hd.2) ?_)))
      refine W.ni (fun h => W.ret (by simp [h])) (fun h => W.ni (fun h' => W.ret (by simp [h'])) (fun h' => ?_))
      simp only [h, h', and_self, if_true]
      exact bothS_rows _ _ (planV_len hL c) (planV_len hL d)
theorem bothV_sm (M H : Int) (c d : C) : sm (bothV M H c d).1 := by
  unfold bothV
  split
  · rename_i h
    simp only [Bool.and_eq_true] at h
    have hL := lim_iff.1 h.1.1
    split
    · have h1 := planV_len hL c
      have h2 := planV_len hL d
      refine ⟨by simp only [rowsTo_length]; omega, fun y hy => ?_⟩
      simp only [rowsTo, List.mem_map] at hy
      obtain ⟨i, _, rfl⟩ := hy
      simp [rowAt]
    · exact ⟨by simp, by simp⟩
  · exact ⟨by simp, by simp⟩
theorem FnExactPlanBoth : PureFnExactPlanBoth := by
  rintro ⟨M, H⟩ ⟨o, h, t⟩ ⟨o', h', t'⟩ _ _ _
  show ∃ k, laws_FnExactPlanBoth.f k M H o h t o' h' t' = some true
  have hS := bothS_w M H (o, h, t) (o', h', t')
  have hI := bothI_w M H (o, h, t) (o', h', t')
  have hsm := bothV_sm M H (o, h, t) (o', h', t')
  generalize bothV M H (o, h, t) (o', h', t') = v at *
  have E := eqSS_w v.1 hsm
  have htot := totL_le2 hsm v.1.length (Nat.le_refl _)
  have hlen := hsm.1
  refine W.yes (laws_FnExactPlanBoth.w (W.bindN (fun k => rfl) (W.bindN (fun k => rfl) (W.bindN (fun k => rfl) (W.bindE hS (W.bindN (fun k => rfl) (W.bindN (fun k => rfl) (W.bindN (fun k => rfl) (W.bindE hI (W.bindE E (W.ne rfl (W.e (by simp) (laws_FnExactPlanBoth.w0 ?_)))))))))))))
  refine W.bindN (fun k => markSS_eq k v.1 hsm) (W.bindE (heldSS_w v.1 hsm) (W.de (by omega) (W.nde rfl ?_)))
  refine W.bindN (fun k => rfl) (W.bindN (fun k => rfl) (W.bindN (fun k => rfl) (W.bindE hI (W.bindE E (W.ne rfl (W.e (by simp) ?_))))))
  exact W.bindE (heldSS_w v.1 hsm) (W.de (by omega) (W.nde rfl (W.ret rfl)))
end Go.Proofs.Ytigkpbnhdkdliaa.Pure
