/- Balances along an axis: the plain statement. -/
import Derived.Test.YtlkmjldhhoopcaaXFnBalancedFace
import Derived.Test.YtlkmjldhhoopcaaXFnBalancedDr2
import Derived.Test.YtlkmjldhhoopcaaRvPuFnBalanced
namespace Go.Proofs.Ytlkmjldhhoopcaa.Pure
open Go.Rv Go.Rv.Ax R
set_option linter.unusedVariables false
set_option linter.unusedSimpArgs false
theorem along_w {D : List Int} {H : List Ho} (g : gOk D H) (p : Po) (l : List Cu) (h : Go.Rv.Ax.Ok p l) : W (fun k _ => impl_along.f k D H p.1 p.2.1 p.2.2.1 p.2.2.2 l) (· = ((poses p l).take (tl l).length, true)) := by
  refine impl_along.w (W.bindE (implPoses_w p l) ?_)
  rw [posesV_ok h]
  have hl := poses_length p l
  have h1 := h.len
  dsimp only
  rw [w64 (i := ((poses p l).length : Int) - 1) (by omega) (by omega)]
  refine W.ne rfl (W.bindE (valid_w g) (W.ne rfl (W.t (by omega) (W.t (by omega) (W.t (by omega) (W.ret ?_))))))
  rw [show (((poses p l).length : Int) - 1).toNat = (tl l).length by omega]; rfl
theorem weight_le {D : List Int} {H : List Ho} (g : gOk D H) (r : Int) (hr : 0 ≤ r ∧ r ≤ 60) (h : Int) (hh : -200000 ≤ h ∧ h ≤ 200000) : W (fun k _ => impl_Ground_weight.f k D H r h) (fun (w : Int) => 0 ≤ w ∧ w ≤ 200000) :=
  (weight_w g r hr h hh).mono fun w hw => by
    have hT := (topsP g r).len
    have hF := faceP (topsGo none H r) h
    generalize face (topsGo none H r) h = F at *
    have hl := hF.len
    have he := er_sum D F (by omega)
    have hd := dot_bd 1 3000 D F (fun x hx => (hF.nn x hx).1) g.2.1
    have hz := rd_nn hF.nn (by omega) (D.length : Int)
    have hs := hF.sum
    omega
theorem prog_w {D : List Int} {H : List Ho} (g : gOk D H) (p : Po) (l : List Cu) (h : Go.Rv.Ax.Ok p l) : W (fun k _ => impl_PrognosisOf.f k D H p.1 p.2.1 p.2.2.1 p.2.2.2 l) (fun r => r.2 = true ∧ (1 ≤ r.1.length ∧ r.1.length ≤ 60) ∧ ∀ x ∈ r.1, 0 ≤ x ∧ x ≤ 200000) := by
  have hl := poses_length p l
  have h1 := h.len
  refine impl_PrognosisOf.w (W.bindE (along_w g p l h) (W.ne rfl ?_))
  dsimp only
  have hok : ∀ q ∈ (poses p l).take (tl l).length, okP q = true := fun q hq => h.poses q (List.mem_of_mem_take hq)
  have hL : ((poses p l).take (tl l).length).length = (tl l).length := by rw [List.length_take]; omega
  generalize (poses p l).take (tl l).length = L at *
  have key : ∀ (rest pre : List Po) (out : List Int), L = pre ++ rest → out.length = pre.length → (∀ x ∈ out, 0 ≤ x ∧ x ≤ 200000) → W (fun k j => (impl_PrognosisOf.cs k j) D H out L (L.length : Int) (pre.length : Int)) (fun r => r.2 = true ∧ (1 ≤ r.1.length ∧ r.1.length ≤ 60) ∧ ∀ x ∈ r.1, 0 ≤ x ∧ x ≤ 200000) := by
    intro rest
    induction rest with
    | nil =>
      intro pre out e ho hb
      have : L.length = pre.length := by rw [e]; simp
      exact impl_PrognosisOf.w0 (W.de (by omega) (W.ret ⟨rfl, by simp only; omega, hb⟩))
    | cons q rest ih =>
      intro pre out e ho hb
      have h2 : L.length = pre.length + (rest.length + 1) := by rw [e]; simp
      have hx : rd (0, (0, (0, 0))) L (pre.length : Int) = q := by rw [e]; exact rd_mid _ _ _
      have hq := okP_iff.1 (hok q (by rw [e]; simp))
      have hp : ((pre ++ [q]).length : Int) = (pre.length : Int) + 1 := by simp
      refine impl_PrognosisOf.w0 (W.dt (by omega) (W.t (by omega) (W.t (by omega) ?_)))
      rw [hx, w64 (i := (pre.length : Int) + 1) (by omega) (by omega)]
      refine W.bind (weight_le g (pre.length : Int) (by omega) q.2.1 (by omega)) fun (w : Int) hw => W.t (by omega) ?_
      have := ih (pre ++ [q]) (out ++ [w]) (by simp [e]) (by simp [ho]) (fun x hxm => by
        rcases List.mem_append.1 hxm with hxm | hxm
        · exact hb x hxm
        · simp at hxm; subst hxm; exact hw)
      rw [hp] at this
      exact this
  exact key L [] [] rfl rfl (by simp)
def sub (a b : List Int) : List Int := List.zipWith (fun x y => x - y) a b
theorem balance_w (a b : List Int) (hl : a.length = b.length) (h60 : a.length ≤ 60) (ha : ∀ x ∈ a, 0 ≤ x ∧ x ≤ 1000000) (hb : ∀ x ∈ b, 0 ≤ x ∧ x ≤ 1000000) : W (fun k _ => impl_BalanceOf.f k a b) (· = (sub a b, true)) := by
  have h1 : a.all (inR 0 1000000) = true := List.all_eq_true.2 fun x hx => inR_iff.2 (ha x hx)
  have h2 : b.all (inR 0 1000000) = true := List.all_eq_true.2 fun x hx => inR_iff.2 (hb x hx)
  refine impl_BalanceOf.w (W.nde (by omega) (W.de (by omega) (W.bindE (areWithin_w _ _ _ (by omega)) (W.ne h1 (W.bindE (areWithin_w _ _ _ (by omega)) (W.ne h2 (impl_BalanceOf.w0 ?_)))))))
  have key : ∀ (rest pre qre qest : List Int), a = pre ++ rest → b = qre ++ qest → pre.length = qre.length → W (fun k j => (impl_BalanceOf.cs k j).2 b (sub pre qre) a (a.length : Int) (pre.length : Int)) (· = (sub a b, true)) := by
    intro rest
    induction rest with
    | nil =>
      intro pre qre qest e1 e2 el
      refine impl_BalanceOf.w1 (W.de (by rw [e1]; simp) (W.ret ?_))
      rw [e1, e2]; unfold sub; rw [List.zipWith_append el]; simp
    | cons x rest ih =>
      intro pre qre qest e1 e2 el
      have l1 : a.length = pre.length + (rest.length + 1) := by rw [e1]; simp
      have l2 : b.length = qre.length + qest.length := by rw [e2]; simp
      obtain ⟨y, qest, rfl⟩ : ∃ y z, qest = y :: z := by
        cases qest with
        | nil => simp at l2; omega
        | cons y z => exact ⟨y, z, rfl⟩
      have hx : rd 0 a (pre.length : Int) = x := by rw [e1]; exact rd_mid _ _ _
      have hy : rd 0 b (pre.length : Int) = y := by rw [e2, el]; exact rd_mid _ _ _
      have b1 := ha x (by rw [e1]; simp)
      have b2 := hb y (by rw [e2]; simp)
      have hz : (sub pre qre).length = pre.length := by unfold sub; simp; omega
      have hp : ((pre ++ [x]).length : Int) = (pre.length : Int) + 1 := by simp
      refine impl_BalanceOf.w1 (W.dt (by omega) (W.t (by omega) (W.t (by omega) (W.t (by omega) (W.t (by omega) ?_)))))
      rw [hx, hy, w64 (i := x - y) (by omega) (by omega), w64 (i := (pre.length : Int) + 1) (by omega) (by omega)]
      refine W.t (by omega) ?_
      have := ih (pre ++ [x]) (qre ++ [y]) qest (by simp [e1]) (by simp [e2]) (by simp [el])
      have e3 : sub (pre ++ [x]) (qre ++ [y]) = sub pre qre ++ [x - y] := by unfold sub; rw [List.zipWith_append el]; rfl
      rw [e3, hp] at this
      exact this
  exact key a [] [] b rfl rfl rfl
theorem sub_at (a b : List Int) (hl : a.length = b.length) (i : Nat) (hi : i < a.length) : rd 0 (sub a b) (i : Int) = rd 0 a (i : Int) - rd 0 b (i : Int) := by
  have : (sub a b).length = a.length := by unfold sub; simp; omega
  rw [rd_at (by omega), rd_at hi, rd_at (by omega)]
  unfold sub
  rw [List.getElem_zipWith]
theorem FnBalanced : PureFnBalanced := by
  intro c0 c1 h0 h1
  refine W.yes (laws_FnBalanced.w ?_)
  refine W.bind (laws_r8Long.w (W.di (fun h => W.ret (P := fun _ => True) trivial) (fun h => W.ret trivial))) fun b _ => ?_
  refine W.bi (fun h => W.ret rfl) (fun h => ?_)
  have hc0 : ∀ b ∈ c0, 0 ≤ b ∧ b ≤ 255 := fun b hb => wf_u8' (h0.2 b hb)
  have hc1 : ∀ b ∈ c1, 0 ≤ b ∧ b ≤ 255 := fun b hb => wf_u8' (h1.2 b hb)
  refine W.bind (r8Ground_w hc0) ?_
  rintro ⟨D, H⟩ (g : gOk D H)
  refine W.bind (r8Axis_w hc0) ?_
  rintro ⟨p1, p2, p3, p4, l⟩ hax
  dsimp only at hax ⊢
  refine W.bind (prog_w g (p1, p2, p3, p4) l hax) ?_
  rintro ⟨E, q⟩ ⟨hq, hE, hEb⟩
  dsimp only at hq hE hEb ⊢
  subst hq
  refine W.ne rfl (W.de (by omega) (W.de (by omega) (laws_FnBalanced.w0 ?_)))
  have fin : ∀ Wd : List Int, Wd.length = E.length → (∀ x ∈ Wd, 0 ≤ x ∧ x ≤ 1000000) → W (fun k j => (laws_FnBalanced.cs k j).2.1 c1 E Wd (E.length : Int)) (· = true) := by
    intro Wd hl hb
    have hE' : ∀ x ∈ E, 0 ≤ x ∧ x ≤ 1000000 := fun x hx => by have := hEb x hx; omega
    refine laws_FnBalanced.w1 (W.de (by omega) (W.bindE (balance_w Wd E hl (by omega) hb hE') (W.bindE (balance_w E E rfl (by omega) hE' hE') ?_)))
    have z1 : (sub Wd E).length = E.length := by unfold sub; simp; omega
    have z2 : (sub E E).length = E.length := by unfold sub; simp
    refine W.ne rfl (W.ne rfl (W.nde (by simp only; omega) (W.nde (by simp only; omega) (laws_FnBalanced.w2 ?_))))
    dsimp only
    have key : ∀ (n i : Nat), E.length = i + n → W (fun k j => (laws_FnBalanced.cs k j).2.2.2 E Wd (sub Wd E) (sub E E) (i : Int)) (· = true) := by
      intro n
      induction n with
      | zero => intro i e; exact laws_FnBalanced.w3 (W.de (by omega) (W.ret rfl))
      | succ n ih =>
        intro i e
        have e1 := sub_at Wd E hl i (by omega)
        have e2 := sub_at E E rfl i (by omega)
        have b1 := rd_nn hb (by omega) (i : Int)
        have b2 := rd_nn hE' (by omega) (i : Int)
        refine laws_FnBalanced.w3 (W.dt (by omega) (W.t (by omega) (W.t (by omega) (W.t (by omega) (W.t (by omega) (W.t (by omega) (W.t (by omega) ?_)))))))
        rw [e1, e2, w64 (i := rd 0 E (i : Int) + (rd 0 Wd (i : Int) - rd 0 E (i : Int))) (by omega) (by omega), w64 (i := (i : Int) + 1) (by omega) (by omega)]
        exact W.nde (by omega) (W.t (by omega) (W.t (by omega) (W.nde (by omega) (ih (i + 1) (by omega)))))
    exact key E.length 0 (by omega)
  have key : ∀ (rest pre Wd : List Int), E = pre ++ rest → Wd.length = pre.length → (∀ x ∈ Wd, 0 ≤ x ∧ x ≤ 1000000) → W (fun k j => (laws_FnBalanced.cs k j).2.1 c1 E Wd (pre.length : Int)) (· = true) := by
    intro rest
    induction rest with
    | nil =>
      intro pre Wd e hl hb
      have : E.length = pre.length := by rw [e]; simp
      rw [← this]
      exact fin Wd (by omega) hb
    | cons x rest ih =>
      intro pre Wd e hl hb
      have hlen : E.length = pre.length + (rest.length + 1) := by rw [e]; simp
      have hx : rd 0 E (pre.length : Int) = x := by rw [e]; exact rd_mid _ _ _
      have bx := hEb x (by rw [e]; simp)
      have hp : ((pre ++ [x]).length : Int) = (pre.length : Int) + 1 := by simp
      refine laws_FnBalanced.w1 (W.dt (by omega) (W.t (by omega) (W.t (by omega) (W.bind (r8At_w hc1 (pre.length : Int) 50 (by omega) (by omega)) fun (t : Int) ht => ?_))))
      rw [hx, w64 (i := x + t) (by omega) (by omega), w64 (i := (pre.length : Int) + 1) (by omega) (by omega)]
      refine W.t (by omega) ?_
      have := ih (pre ++ [x]) (Wd ++ [x + t]) (by simp [e]) (by simp [hl]) (fun y hy => by
        rcases List.mem_append.1 hy with hy | hy
        · exact hb y hy
        · simp at hy; omega)
      rw [hp] at this
      exact this
  exact key E [] [] rfl rfl (by simp)
end Go.Proofs.Ytlkmjldhhoopcaa.Pure
