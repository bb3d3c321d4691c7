/- spec.ReadAxis. -/
import Derived.Test.YtgknckbplbldbaaDoorXFnExactReadAxisNmS
import Derived.Test.YtgknckbplbldbaaDoorXFnExactReadAxisTxAs
import Derived.Test.YtgknckbplbldbaaDoorXFnExactReadAxisAxW
namespace Go.Proofs.YtgknckbplbldbaaDoor.R
open Go.Rv Go.Rv.Tx Go.Rv.Ax
set_option linter.unusedVariables false
set_option linter.unusedSimpArgs false
def cuN (c : Cu) : List Int := [c.1, c.2.1, c.2.2]
def flat (p : Po) (l : List Cu) : List Int := [p.1, p.2.1, p.2.2.1, p.2.2.2] ++ l.flatMap cuN
def sm (v : Int) : Prop := -100000000 < v ∧ v < 100000000
theorem nd_cus (l : List Cu) : nd (cusT l) := by
  intro c t e
  cases l with
  | nil => cases e
  | cons x l =>
    have e : 59 :: _ = c :: t := e
    cases e
    decide
theorem nd_sep {c : UInt8} (h : c.toNat < 48 ∨ 57 < c.toNat) (r : List UInt8) : nd ([c] ++ r) := by
  intro b t e
  cases e
  exact h
theorem numsCu_w (l : List UInt8) (hl : l.length ≤ 1048576) : ∀ (cs : List Cu) (pre : List UInt8) (out : List Int), (∀ x ∈ cs, sm x.1 ∧ sm x.2.1 ∧ sm x.2.2) → l = pre ++ cusT cs → out.length + 3 * cs.length ≤ 1048576 →
    W (fun k m => (spec_l02Numbers.cs k m).1 (bs l) out (pre.length : Int)) (· = out ++ cs.flatMap cuN) := by
  intro cs
  induction cs with
  | nil =>
    intro pre out hs e ho
    refine spec_l02Numbers.w0 ?_
    rw [len_bs]
    refine W.de (by rw [e]; simp [cusT]) (W.ret ?_)
    simp
  | cons x cs ih =>
    intro pre out hs e ho
    simp only [List.length_cons] at ho
    have hx := hs x (by simp)
    have e0 : l = pre ++ ([59] ++ (Lib.itoa x.1 ++ ([58] ++ (Lib.itoa x.2.1 ++ ([44] ++ (Lib.itoa x.2.2 ++ cusT cs)))))) := by rw [e]; simp [cusT, cuT]
    refine sep_w l hl out 59 (by decide) pre _ e0 ?_
    have n1 := num_w (P := (· = out ++ (x :: cs).flatMap cuN)) l hl out (by omega) x.1 hx.1 (pre ++ [59]) _ (by rw [e0]; first | (simp only [List.append_assoc]; done) | (simp only [List.append_assoc]; rfl) | rfl) (nd_sep (by decide) _)
    have n2 := sep_w (P := (· = out ++ (x :: cs).flatMap cuN)) l hl (out ++ [x.1]) 58 (by decide) (pre ++ [59] ++ Lib.itoa x.1) _ (by rw [e0]; first | (simp only [List.append_assoc]; done) | (simp only [List.append_assoc]; rfl) | rfl)
    have n3 := num_w (P := (· = out ++ (x :: cs).flatMap cuN)) l hl (out ++ [x.1]) (by simp; omega) x.2.1 hx.2.1 (pre ++ [59] ++ Lib.itoa x.1 ++ [58]) _ (by rw [e0]; first | (simp only [List.append_assoc]; done) | (simp only [List.append_assoc]; rfl) | rfl) (nd_sep (by decide) _)
    have n4 := sep_w (P := (· = out ++ (x :: cs).flatMap cuN)) l hl (out ++ [x.1] ++ [x.2.1]) 44 (by decide) (pre ++ [59] ++ Lib.itoa x.1 ++ [58] ++ Lib.itoa x.2.1) _ (by rw [e0]; first | (simp only [List.append_assoc]; done) | (simp only [List.append_assoc]; rfl) | rfl)
    have n5 := num_w (P := (· = out ++ (x :: cs).flatMap cuN)) l hl (out ++ [x.1] ++ [x.2.1]) (by simp; omega) x.2.2 hx.2.2 (pre ++ [59] ++ Lib.itoa x.1 ++ [58] ++ Lib.itoa x.2.1 ++ [44]) _ (by rw [e0]; first | (simp only [List.append_assoc]; done) | (simp only [List.append_assoc]; rfl) | rfl) (nd_cus cs)
    have n6 := ih (pre ++ [59] ++ Lib.itoa x.1 ++ [58] ++ Lib.itoa x.2.1 ++ [44] ++ Lib.itoa x.2.2) (out ++ [x.1] ++ [x.2.1] ++ [x.2.2]) (fun y hy => hs y (by simp [hy])) (by rw [e0]; simp) (by simp; omega)
    simp only [List.length_append, List.length_cons, List.length_nil, Nat.zero_add, List.append_assoc, List.cons_append, List.nil_append, List.flatMap_cons, cuN, Nat.add_assoc, Nat.add_comm, Nat.add_left_comm] at n1 n2 n3 n4 n5 n6 ⊢
    exact n1 (n2 (n3 (n4 (n5 n6))))
theorem nums_w (p : Po) (cs : List Cu) (hp : sm p.1 ∧ sm p.2.1 ∧ sm p.2.2.1 ∧ sm p.2.2.2) (hs : ∀ x ∈ cs, sm x.1 ∧ sm x.2.1 ∧ sm x.2.2) (hl : (aText p cs).length ≤ 1048576) (hc : cs.length ≤ 1000) :
    W (fun k _ => spec_l02Numbers.f k (bs (aText p cs))) (· = flat p cs) := by
  refine spec_l02Numbers.w ?_
  generalize e0 : aText p cs = l at hl
  have e0 : l = [] ++ (Lib.itoa p.1 ++ ([44] ++ (Lib.itoa p.2.1 ++ ([44] ++ (Lib.itoa p.2.2.1 ++ ([44] ++ (Lib.itoa p.2.2.2 ++ cusT cs))))))) := by rw [← e0]; simp [aText, poT]
  have n1 := num_w (P := (· = flat p cs)) l hl [] (by simp) p.1 hp.1 [] _ e0 (nd_sep (by decide) _)
  have n2 := sep_w (P := (· = flat p cs)) l hl ([] ++ [p.1]) 44 (by decide) (Lib.itoa p.1) _ (by rw [e0]; first | (simp only [List.append_assoc]; done) | (simp only [List.append_assoc]; rfl) | rfl)
  have n3 := num_w (P := (· = flat p cs)) l hl ([] ++ [p.1]) (by simp) p.2.1 hp.2.1 (Lib.itoa p.1 ++ [44]) _ (by rw [e0]; first | (simp only [List.append_assoc]; done) | (simp only [List.append_assoc]; rfl) | rfl) (nd_sep (by decide) _)
  have n4 := sep_w (P := (· = flat p cs)) l hl ([] ++ [p.1] ++ [p.2.1]) 44 (by decide) (Lib.itoa p.1 ++ [44] ++ Lib.itoa p.2.1) _ (by rw [e0]; first | (simp only [List.append_assoc]; done) | (simp only [List.append_assoc]; rfl) | rfl)
  have n5 := num_w (P := (· = flat p cs)) l hl ([] ++ [p.1] ++ [p.2.1]) (by simp) p.2.2.1 hp.2.2.1 (Lib.itoa p.1 ++ [44] ++ Lib.itoa p.2.1 ++ [44]) _ (by rw [e0]; first | (simp only [List.append_assoc]; done) | (simp only [List.append_assoc]; rfl) | rfl) (nd_sep (by decide) _)
  have n6 := sep_w (P := (· = flat p cs)) l hl ([] ++ [p.1] ++ [p.2.1] ++ [p.2.2.1]) 44 (by decide) (Lib.itoa p.1 ++ [44] ++ Lib.itoa p.2.1 ++ [44] ++ Lib.itoa p.2.2.1) _ (by rw [e0]; first | (simp only [List.append_assoc]; done) | (simp only [List.append_assoc]; rfl) | rfl)
  have n7 := num_w (P := (· = flat p cs)) l hl ([] ++ [p.1] ++ [p.2.1] ++ [p.2.2.1]) (by simp) p.2.2.2 hp.2.2.2 (Lib.itoa p.1 ++ [44] ++ Lib.itoa p.2.1 ++ [44] ++ Lib.itoa p.2.2.1 ++ [44]) _ (by rw [e0]; first | (simp only [List.append_assoc]; done) | (simp only [List.append_assoc]; rfl) | rfl) (nd_cus cs)
  have n8 := numsCu_w l hl cs (Lib.itoa p.1 ++ [44] ++ Lib.itoa p.2.1 ++ [44] ++ Lib.itoa p.2.2.1 ++ [44] ++ Lib.itoa p.2.2.2) ([] ++ [p.1] ++ [p.2.1] ++ [p.2.2.1] ++ [p.2.2.2]) hs (by rw [e0]; simp) (by simp; omega)
  have e9 : [p.1, p.2.1, p.2.2.1, p.2.2.2] ++ cs.flatMap cuN = flat p cs := rfl
  simp only [List.length_append, List.length_cons, List.length_nil, Nat.zero_add, List.append_assoc, List.cons_append, List.nil_append, Nat.add_assoc, Nat.add_comm, Nat.add_left_comm] at n1 n2 n3 n4 n5 n6 n7 n8 e9
  rw [e9] at n8
  exact n1 (n2 (n3 (n4 (n5 (n6 (n7 n8))))))
/-! ### the axis of the numbers -/
def grp : List Int → List Cu
  | a :: b :: c :: r => (a, b, c) :: grp r
  | _ => []
theorem grp_cuN : ∀ cs : List Cu, grp (cs.flatMap cuN) = cs
  | [] => rfl
  | (a, b, c) :: cs => by
    have := grp_cuN cs
    simp [cuN, grp] at this ⊢
    exact this
abbrev AxR' := Int × Int × Int × Int × List Cu × Bool
abbrev yesA (p : Po) (cs : List Cu) : AxR' := (p.1, p.2.1, p.2.2.1, p.2.2.2, cs, true)
abbrev noA : AxR' := (0, 0, 0, 0, [], false)
open Classical in
noncomputable def finA (l : List UInt8) (p : Po) (cs : List Cu) : AxR' := if Ax.Ok p cs ∧ l = aText p cs then yesA p cs else noA
theorem specFin_w (l : List UInt8) (p : Po) (t : List Int) (ht : t.length ≤ 28) (z1 z2 z3 z4 : Int) : ∀ (n : Nat) (rest pre : List Int) (acc : List Cu), rest.length ≤ n → t = pre ++ rest → acc.length ≤ pre.length →
    W (fun k m => (spec_ReadAxis.cs k m).2 (bs l) z1 z2 z3 z4 t p.1 p.2.1 p.2.2.1 p.2.2.2 acc (pre.length : Int)) (· = finA l p (acc ++ grp rest)) := by
  intro n
  induction n using Nat.strongRecOn with
  | _ n ih =>
    intro rest pre acc hn e ha
    have hlen : t.length = pre.length + rest.length := by rw [e]; simp
    have stop : rest.length < 3 → W (fun k m => (spec_ReadAxis.cs k m).2 (bs l) z1 z2 z3 z4 t p.1 p.2.1 p.2.2.1 p.2.2.2 acc (pre.length : Int)) (· = finA l p acc) := by
      intro h3
      refine spec_ReadAxis.w1 ?_
      rw [w64 (i := (pre.length : Int) + 2) (by omega) (by omega)]
      refine W.de (by omega) (W.bindE (specIs_w p acc) (W.ndi (fun h => W.ret ?_) (fun h => ?_)))
      · unfold finA; rw [if_neg fun h2 => h h2.1]
      · have hi := ok_i h
        have h8 := h.2.1.2
        refine W.bindE (specText_w p acc hi.1 (by omega) hi.2) ?_
        rw [eq_bs]
        refine W.ndi (fun h2 => W.ret ?_) (fun h2 => W.ret ?_)
        · unfold finA; rw [if_neg fun h3 => h2 h3.2.symm]
        · unfold finA; rw [if_pos ⟨h, h2.symm⟩]
    match rest, hn, e, hlen, stop with
    | [], hn, e, hlen, stop => simpa [grp] using stop (by simp)
    | [a], hn, e, hlen, stop => simpa [grp] using stop (by simp)
    | [a, b], hn, e, hlen, stop => simpa [grp] using stop (by simp)
    | a :: b :: c :: r, hn, e, hlen, stop =>
      simp only [List.length_cons] at hn hlen
      have h1 : rd 0 t (pre.length : Int) = a := by rw [e]; exact rd_mid _ _ _
      have h2 : rd 0 t ((pre.length : Int) + 1) = b := by
        have := rd_mid (d := (0 : Int)) (pre ++ [a]) b (c :: r)
        simpa [e] using this
      have h3 : rd 0 t ((pre.length : Int) + 2) = c := by
        have := rd_mid (d := (0 : Int)) (pre ++ [a, b]) c r
        simpa [e] using this
      refine spec_ReadAxis.w1 ?_
      rw [w64 (i := (pre.length : Int) + 2) (by omega) (by omega), w64 (i := (pre.length : Int) + 1) (by omega) (by omega), w64 (i := (pre.length : Int) + 3) (by omega) (by omega), h1, h2, h3]
      refine W.dt (by omega) (W.t (by omega) (W.t (by omega) (W.t (by omega) (W.t (by omega) (W.t (by omega) (W.t (by omega) (W.t (show acc.length + 1 < 366503875925 by omega) ?_)))))))
      have := ih (n - 1) (by omega) r (pre ++ [a, b, c]) (acc ++ [(a, b, c)]) (by omega) (by rw [e]; simp) (by simp; omega)
      simpa [grp] using this
theorem specAny_w (l : List UInt8) (t : List Int) (h7 : ¬ (t.length : Int) < 7) (h28 : ¬ (28 : Int) < t.length) : W (fun k m => (spec_ReadAxis.cs k m).1 (bs l) 0 0 0 0 t) (· = finA l (rd 0 t 0, rd 0 t 1, rd 0 t 2, rd 0 t 3) (grp (t.drop 4))) := by
  refine spec_ReadAxis.w0 (W.t (by decide) (W.t (by omega) (W.t (by decide) (W.t (by omega) (W.t (by decide) (W.t (by omega) (W.t (by decide) (W.t (by omega) ?_))))))))
  have := specFin_w l (rd 0 t 0, rd 0 t 1, rd 0 t 2, rd 0 t 3) t (by omega) 0 0 0 0 (t.drop 4).length (t.drop 4) (t.take 4) [] (Nat.le_refl _) (by simp) (by simp)
  rw [List.length_take, show min 4 t.length = 4 by omega, List.nil_append] at this
  exact this
theorem sm_ok {p : Po} {l : List Cu} (h : Ax.Ok p l) : (sm p.1 ∧ sm p.2.1 ∧ sm p.2.2.1 ∧ sm p.2.2.2) ∧ ∀ x ∈ l, sm x.1 ∧ sm x.2.1 ∧ sm x.2.2 := by
  have hp := okP_iff.1 h.1
  refine ⟨⟨⟨by omega, by omega⟩, ⟨by omega, by omega⟩, ⟨by omega, by omega⟩, by omega, by omega⟩, fun c hc => ?_⟩
  have h1 := h.c hc
  have h2 := okT_iff.1 h1.2
  have h3 := sumR_le (fun x hx => (h.c hx).1) c hc
  have h4 := h.2.2.2.1
  exact ⟨⟨by omega, by omega⟩, ⟨by omega, by omega⟩, by omega, by omega⟩
theorem specRead_yes (p : Po) (cs : List Cu) (h : Ax.Ok p cs) (hl : (aText p cs).length ≤ 1048576) : W (fun k _ => spec_ReadAxis.f k (bs (aText p cs))) (· = yesA p cs) := by
  have hs := sm_ok h
  have h8 := h.2.1
  have hfl : ∀ l : List Cu, (l.flatMap cuN).length = 3 * l.length := fun l => by
    induction l with
    | nil => rfl
    | cons x l ih => simp only [List.flatMap_cons, List.length_append, ih, cuN, List.length_cons, List.length_nil]; omega
  have hlen : (flat p cs).length = 4 + 3 * cs.length := by simp only [flat, List.length_append, List.length_cons, List.length_nil, hfl]
  refine spec_ReadAxis.w (W.bindE (nums_w p cs hs.1 hs.2 hl (by omega)) (W.de (by omega) (W.de (by omega) ?_)))
  refine W.mono (specAny_w (aText p cs) (flat p cs) (by omega) (by omega)) ?_
  rintro v rfl
  have e1 : (rd 0 (flat p cs) 0, rd 0 (flat p cs) 1, rd 0 (flat p cs) 2, rd 0 (flat p cs) 3) = p := rfl
  have e2 : (flat p cs).drop 4 = cs.flatMap cuN := rfl
  rw [e1, e2, grp_cuN]
  unfold finA
  rw [if_pos ⟨h, rfl⟩]
theorem specRead_no (l : List UInt8) (hl : l.length ≤ 1048576) (h : ∀ p cs, Ax.Ok p cs → l ≠ aText p cs) : W (fun k _ => spec_ReadAxis.f k (bs l)) (· = noA) := by
  refine spec_ReadAxis.w (W.bind (numbers_any l hl) fun t _ => W.di (fun _ => W.ret rfl) (fun h7 => W.di (fun _ => W.ret rfl) (fun h28 => ?_)))
  refine W.mono (specAny_w l t h7 h28) ?_
  rintro v rfl
  unfold finA
  rw [if_neg fun h2 => h _ _ h2.1 h2.2]
end Go.Proofs.YtgknckbplbldbaaDoor.R
