/- spec.l02Numbers: the numbers of a text. -/
import Derived.Test.YtgknckbplbldbaaDoorXFnExactReadAxisO
import Derived.Test.YtgknckbplbldbaaDoorRvTxP
namespace Go.Proofs.YtgknckbplbldbaaDoor.R
open Go.Rv Go.Rv.Tx
set_option linter.unusedVariables false
set_option linter.unusedSimpArgs false
theorem u8_dig {c : UInt8} (h0 : 48 ≤ c.toNat) (h1 : c.toNat ≤ 57) : wrap64 (IntKind.u8.wrap ((c.toNat : Int) - 48)) = ((c.toNat - 48 : Nat) : Int) := by
  have e : (2 : Int) ^ IntKind.u8.bits = 256 := by decide
  have h2 : IntKind.u8.wrap ((c.toNat : Int) - 48) = ((c.toNat - 48 : Nat) : Int) := by
    simp only [IntKind.wrap, IntKind.signed, Bool.false_and, Bool.false_eq_true, if_false, e]
    omega
  rw [h2, w64 (by omega) (by omega)]
/-- digits, as far as they are read -/
theorem numDig_any {P : spec_l02Numbers.N → Prop} (l : List UInt8) (hl : l.length ≤ 1048576) (out : List Int) (ho : out.length ≤ 1048576) (sg : Int) : ∀ (j : Nat) (a : Nat) (n : Int), a ≤ l.length → j ≤ 8 →
    (∀ (a' : Nat) (n' : Int), a ≤ a' → a' ≤ l.length → (∀ h : a < l.length, j ≠ 0 → 48 ≤ l[a].toNat → l[a].toNat ≤ 57 → a < a') → W (fun k m => (spec_l02Numbers.cs k m).1 (bs l) (out ++ [n']) (a' : Int)) P) →
    W (fun k m => (spec_l02Numbers.cs k m).2.2.2.1 (bs l) out (a : Int) sg n ((8 - j : Nat) : Int)) P := by
  intro j
  induction j with
  | zero =>
    intro a n ha hj next
    refine spec_l02Numbers.w3 (W.de (by omega) (W.t (show out.length + 1 < 1099511627776 by omega) ?_))
    exact next a _ (Nat.le_refl _) ha fun h h0 => (h0 rfl).elim
  | succ j ih =>
    intro a n ha hj next
    refine spec_l02Numbers.w3 (W.dt (by omega) ?_)
    rw [len_bs]
    refine W.di (fun h => ?_) (fun h => ?_)
    · have h : a < l.length := by omega
      rw [at_bs l a h]
      refine W.t (by omega) (W.t (by omega) (W.di (fun h1 => W.t (by omega) (W.t (by omega) (W.di (fun h2 => ?_) (fun h2 => ?_)))) (fun h1 => ?_)))
      · refine spec_l02Numbers.w4 ?_
        rw [len_bs, at_bs l a h]
        refine W.t (by omega) (W.t (by omega) ?_)
        have := ih (a + 1) (wrap64 (wrap64 (10 * n) + wrap64 (IntKind.u8.wrap ((l[a].toNat : Int) - 48)))) (by omega) (by omega) fun a' n' h3 h4 _ => next a' n' (by omega) h4 fun _ _ _ _ => by omega
        rw [w64 (i := (a : Int) + 1) (by omega) (by omega), w64 (i := ((8 - (j + 1) : Nat) : Int) + 1) (by omega) (by omega)]
        have e1 : ((8 - (j + 1) : Nat) : Int) + 1 = ((8 - j : Nat) : Int) := by omega
        rw [e1]
        exact this
      · refine W.t (show out.length + 1 < 1099511627776 by omega) (next a _ (Nat.le_refl _) ha fun h3 h4 h5 h6 => by omega)
      · refine W.t (show out.length + 1 < 1099511627776 by omega) (next a _ (Nat.le_refl _) ha fun h3 h4 h5 h6 => by omega)
    · exact W.t (show out.length + 1 < 1099511627776 by omega) (next a _ (Nat.le_refl _) ha fun h3 h4 h5 h6 => by omega)
theorem nums_any (l : List UInt8) (hl : l.length ≤ 1048576) : ∀ (n a : Nat) (out : List Int), l.length ≤ n + a → a ≤ l.length → out.length ≤ a → W (fun k m => (spec_l02Numbers.cs k m).1 (bs l) out (a : Int)) (fun _ => True) := by
  intro n
  induction n with
  | zero =>
    intro a out hn ha ho
    refine spec_l02Numbers.w0 ?_
    rw [len_bs]
    exact W.de (by omega) (W.ret trivial)
  | succ n ih =>
    intro a out hn ha ho
    refine spec_l02Numbers.w0 ?_
    rw [len_bs]
    refine W.di (fun h => ?_) (fun h => W.ret trivial)
    have h : a < l.length := by omega
    have e1 : wrap64 ((a : Int) + 1) = ((a + 1 : Nat) : Int) := by rw [w64 (by omega) (by omega)]; omega
    have digits : ∀ (b : Nat) (sg : Int) (hb : b < l.length), a ≤ b → 48 ≤ l[b].toNat → l[b].toNat ≤ 57 → W (fun k m => (spec_l02Numbers.cs k m).2.2.1 (bs l) out (b : Int) sg) (fun _ => True) := by
      intro b sg hb hab h0 h1
      refine spec_l02Numbers.w2 ?_
      refine numDig_any l hl out (by omega) sg 8 b 0 (by omega) (by omega) fun a' n' h2 h3 h4 => ?_
      have := h4 hb (by omega) h0 h1
      exact ih a' (out ++ [n']) (by omega) h3 (by simp; omega)
    have more : W (fun k m => (spec_l02Numbers.cs k m).1 (bs l) out ((a + 1 : Nat) : Int)) (fun _ => True) := ih (a + 1) out (by omega) (by omega) (by omega)
    have body : ∀ sg : Int, W (fun k m => (spec_l02Numbers.cs k m).2.1 (bs l) out (a : Int) sg) (fun _ => True) := by
      intro sg
      refine spec_l02Numbers.w1 ?_
      rw [len_bs, at_bs l a h, e1]
      refine W.t (by omega) (W.t (by omega) ?_)
      have signs : W (fun k m => (if (decide (0 < sg)) = true then (spec_l02Numbers.cs k m).1 (bs l) out ((a + 1 : Nat) : Int) else (if (decide (((a + 1 : Nat) : Int) = (l.length : Int))) = true then (spec_l02Numbers.cs k m).1 (bs l) out ((a + 1 : Nat) : Int) else if 0 ≤ ((a + 1 : Nat) : Int) then if ((a + 1 : Nat) : Int) < (l.length : Int) then (if (decide ((sAt (bs l) ((a + 1 : Nat) : Int)) < 48)) = true then (spec_l02Numbers.cs k m).1 (bs l) out ((a + 1 : Nat) : Int) else if 0 ≤ ((a + 1 : Nat) : Int) then if ((a + 1 : Nat) : Int) < (l.length : Int) then (if (decide (57 < (sAt (bs l) ((a + 1 : Nat) : Int)))) = true then (spec_l02Numbers.cs k m).1 (bs l) out ((a + 1 : Nat) : Int) else (spec_l02Numbers.cs k m).2.2.1 (bs l) out ((a + 1 : Nat) : Int) sg) else none else none) else none else none))) (fun _ => True) := by
        refine W.di (fun _ => more) (fun _ => W.di (fun _ => more) (fun h2 => ?_))
        have h3 : a + 1 < l.length := by omega
        rw [at_bs l (a + 1) h3]
        refine W.t (by omega) (W.t (by omega) (W.di (fun _ => more) (fun h4 => W.t (by omega) (W.t (by omega) (W.di (fun _ => more) (fun h5 => ?_))))))
        exact digits (a + 1) sg h3 (by omega) (by omega) (by omega)
      refine W.di (fun h1 => signs) (fun h1 => W.t (by omega) (W.t (by omega) (W.di (fun h2 => signs) (fun h2 => ?_))))
      exact digits a sg h (Nat.le_refl _) (by omega) (by omega)
    rw [at_bs l a h]
    exact W.t (by omega) (W.t (by omega) (W.di (fun _ => body _) (fun _ => body _)))
theorem numbers_any (l : List UInt8) (hl : l.length ≤ 1048576) : W (fun k _ => spec_l02Numbers.f k (bs l)) (fun _ => True) :=
  spec_l02Numbers.w (nums_any l hl l.length 0 [] (by omega) (by omega) (by simp))
/-! ### the numbers that stand there -/
def nd (r : List UInt8) : Prop := ∀ c t, r = c :: t → c.toNat < 48 ∨ 57 < c.toNat
theorem numDig_w {P : spec_l02Numbers.N → Prop} (l : List UInt8) (hl : l.length ≤ 1048576) (out : List Int) (ho : out.length ≤ 1048576) (sg : Int) (v : Nat) (hv : v ≤ 100000000) : ∀ (ds pre rest : List UInt8) (n k : Nat), l = pre ++ (ds ++ rest) → nd rest → dval n ds = some v → k + ds.length ≤ 8 →
    W (fun k m => (spec_l02Numbers.cs k m).1 (bs l) (out ++ [wrap64 (sg * (v : Int))]) ((pre.length + ds.length : Nat) : Int)) P →
    W (fun k' m => (spec_l02Numbers.cs k' m).2.2.2.1 (bs l) out (pre.length : Int) sg (n : Int) (k : Int)) P := by
  intro ds
  induction ds with
  | nil =>
    intro pre rest n k e hnd hd hk next
    simp only [dval, Option.some.injEq] at hd
    subst hd
    have hlen : l.length = pre.length + rest.length := by rw [e]; simp
    refine spec_l02Numbers.w3 ?_
    rw [len_bs]
    have fin : W (fun k' m => if out.length + [(wrap64 (sg * (n : Int)))].length < 1099511627776 then (spec_l02Numbers.cs k' m).1 (bs l) (out ++ [(wrap64 (sg * (n : Int)))]) (pre.length : Int) else none) P := W.t (by simp; omega) next
    refine W.di (fun _ => W.di (fun h => ?_) (fun _ => fin)) (fun _ => fin)
    have h : pre.length < l.length := by omega
    obtain ⟨c, t, er⟩ : ∃ c t, rest = c :: t := by cases rest with
      | nil => simp at hlen; omega
      | cons c t => exact ⟨c, t, rfl⟩
    have hc : l[pre.length] = c := by simp only [e, er]; rw [List.getElem_append_right (by omega)]; simp
    have hcn := hnd c t er
    rw [at_bs l _ h, hc]
    refine W.t (by omega) (W.t (by omega) (W.di (fun h1 => W.t (by omega) (W.t (by omega) (W.de (by omega) fin))) (fun _ => fin)))
  | cons c ds ih =>
    intro pre rest n k e hnd hd hk next
    have hlen : l.length = pre.length + (ds.length + 1 + rest.length) := by rw [e]; simp; omega
    simp only [dval] at hd
    split at hd
    case isFalse => cases hd
    rename_i hcd
    simp only [List.length_cons] at hk
    have h : pre.length < l.length := by omega
    have hc : l[pre.length] = c := by simp only [e]; rw [List.getElem_append_right (by omega)]; simp
    have hle := dval_le _ _ _ hd
    refine spec_l02Numbers.w3 (W.dt (by omega) ?_)
    rw [len_bs, at_bs l _ h, hc]
    refine W.dt (by omega) (W.t (by omega) (W.t (by omega) (W.dt (by omega) (W.t (by omega) (W.t (by omega) (W.dt (by omega) ?_))))))
    refine spec_l02Numbers.w4 ?_
    rw [len_bs, at_bs l _ h, hc]
    refine W.t (by omega) (W.t (by omega) ?_)
    rw [u8_dig hcd.1 hcd.2, w64 (i := (pre.length : Int) + 1) (by omega) (by omega), w64 (i := (k : Int) + 1) (by omega) (by omega), w64 (i := 10 * (n : Int)) (by omega) (by omega), w64 (by omega) (by omega)]
    have := ih (pre ++ [c]) rest (10 * n + (c.toNat - 48)) (k + 1) (by rw [e]; simp) hnd hd (by omega) (by
      have e3 : (pre ++ [c]).length + ds.length = pre.length + (c :: ds).length := by simp; omega
      rw [e3]
      exact next)
    have e4 : (((pre ++ [c]).length : Nat) : Int) = (pre.length : Int) + 1 := by simp
    have e5 : ((10 * n + (c.toNat - 48) : Nat) : Int) = 10 * (n : Int) + ((c.toNat - 48 : Nat) : Int) := by omega
    have e6 : ((k + 1 : Nat) : Int) = (k : Int) + 1 := by omega
    rw [e4, e5, e6] at this
    exact this
theorem nd8 {u : Nat} (h : u < 100000000) : (Lib.decDigits u).length ≤ 8 := by
  rw [Lib.decDigits_length]
  exact nDigits_le 7 u (by simpa using h)
theorem num_w {P : spec_l02Numbers.N → Prop} (l : List UInt8) (hl : l.length ≤ 1048576) (out : List Int) (ho : out.length ≤ 1048576) (v : Int) (hv : -100000000 < v ∧ v < 100000000) (pre rest : List UInt8) (e : l = pre ++ (Lib.itoa v ++ rest)) (hnd : nd rest)
    (next : W (fun k m => (spec_l02Numbers.cs k m).1 (bs l) (out ++ [v]) ((pre.length + (Lib.itoa v).length : Nat) : Int)) P) :
    W (fun k m => (spec_l02Numbers.cs k m).1 (bs l) out (pre.length : Int)) P := by
  refine spec_l02Numbers.w0 ?_
  rw [len_bs]
  by_cases hneg : v < 0
  · have ei : Lib.itoa v = 45 :: Lib.decDigits v.natAbs := by unfold Lib.itoa; rw [if_pos hneg]
    obtain ⟨c, r, er, c0, c1⟩ := dec_head v.natAbs
    rw [ei] at e next
    have hlen : l.length = pre.length + ((Lib.decDigits v.natAbs).length + 1 + rest.length) := by rw [e]; simp; omega
    have hpos : (Lib.decDigits v.natAbs).length = r.length + 1 := by rw [er]; rfl
    have h : pre.length < l.length := by omega
    have h2 : pre.length + 1 < l.length := by omega
    have hc : l[pre.length] = 45 := by simp only [e]; rw [List.getElem_append_right (by omega)]; simp
    have hc2 : l[pre.length + 1] = c := by simp only [e, er]; rw [List.getElem_append_right (by omega)]; simp
    have e45 : ((45 : UInt8).toNat : Int) = 45 := rfl
    rw [at_bs l _ h, hc, e45]
    refine W.dt (by omega) (W.t (by omega) (W.t (by omega) (W.dt rfl (spec_l02Numbers.w1 ?_))))
    have e1 : wrap64 ((pre.length : Int) + 1) = ((pre.length + 1 : Nat) : Int) := by rw [w64 (by omega) (by omega)]; omega
    rw [len_bs, at_bs l _ h, hc, e45, e1, at_bs l _ h2, hc2]
    refine W.t (by omega) (W.t (by omega) (W.dt (by omega) (W.de (by omega) (W.de (by omega) (W.t (by omega) (W.t (by omega) (W.de (by omega) (W.t (by omega) (W.t (by omega) (W.de (by omega) (spec_l02Numbers.w2 ?_)))))))))))
    have hd := dval_dec v.natAbs []
    rw [List.append_nil] at hd
    have h8 := nd8 (u := v.natAbs) (by omega)
    have := numDig_w (P := P) l hl out ho (-1) v.natAbs (by omega) (Lib.decDigits v.natAbs) (pre ++ [45]) rest 0 0 (by rw [e]; simp) hnd hd (by omega) (by
      have e3 : wrap64 (-1 * (v.natAbs : Int)) = v := by rw [w64 (by omega) (by omega)]; omega
      have e4 : (pre ++ [45]).length + (Lib.decDigits v.natAbs).length = pre.length + (45 :: Lib.decDigits v.natAbs).length := by simp; omega
      rw [e3, e4]
      exact next)
    have e5 : (pre ++ [(45 : UInt8)]).length = pre.length + 1 := by simp
    rw [e5] at this
    exact this
  · have ei : Lib.itoa v = Lib.decDigits v.toNat := by unfold Lib.itoa; rw [if_neg hneg]
    obtain ⟨c, r, er, c0, c1⟩ := dec_head v.toNat
    rw [ei] at e next
    have hlen : l.length = pre.length + ((Lib.decDigits v.toNat).length + rest.length) := by rw [e]; simp
    have hpos : (Lib.decDigits v.toNat).length = r.length + 1 := by rw [er]; rfl
    have h : pre.length < l.length := by omega
    have hc : l[pre.length] = c := by simp only [e, er]; rw [List.getElem_append_right (by omega)]; simp
    rw [at_bs l _ h, hc]
    refine W.dt (by omega) (W.t (by omega) (W.t (by omega) (W.de (by omega) (spec_l02Numbers.w1 ?_))))
    rw [len_bs, at_bs l _ h, hc]
    refine W.t (by omega) (W.t (by omega) (W.de (by omega) (W.t (by omega) (W.t (by omega) (W.de (by omega) (spec_l02Numbers.w2 ?_))))))
    have hd := dval_dec v.toNat []
    rw [List.append_nil] at hd
    have h8 := nd8 (u := v.toNat) (by omega)
    exact numDig_w (P := P) l hl out ho 1 v.toNat (by omega) (Lib.decDigits v.toNat) pre rest 0 0 e hnd hd (by omega) (by
      have e3 : wrap64 (1 * (v.toNat : Int)) = v := by rw [w64 (by omega) (by omega)]; omega
      rw [e3]
      exact next)
theorem sep_w {P : spec_l02Numbers.N → Prop} (l : List UInt8) (hl : l.length ≤ 1048576) (out : List Int) (c : UInt8) (hc : c.toNat = 44 ∨ c.toNat = 58 ∨ c.toNat = 59) (pre rest : List UInt8) (e : l = pre ++ (c :: rest))
    (next : W (fun k m => (spec_l02Numbers.cs k m).1 (bs l) out ((pre.length + 1 : Nat) : Int)) P) :
    W (fun k m => (spec_l02Numbers.cs k m).1 (bs l) out (pre.length : Int)) P := by
  have hlen : l.length = pre.length + (rest.length + 1) := by rw [e]; simp
  have h : pre.length < l.length := by omega
  have hcc : l[pre.length] = c := by simp only [e]; rw [List.getElem_append_right (by omega)]; simp
  have e1 : wrap64 ((pre.length : Int) + 1) = ((pre.length + 1 : Nat) : Int) := by rw [w64 (by omega) (by omega)]; omega
  refine spec_l02Numbers.w0 ?_
  rw [len_bs, at_bs l _ h, hcc]
  refine W.dt (by omega) (W.t (by omega) (W.t (by omega) (W.de (by omega) (spec_l02Numbers.w1 ?_))))
  rw [len_bs, at_bs l _ h, hcc, e1]
  refine W.t (by omega) (W.t (by omega) (W.di (fun _ => W.dt (by omega) next) (fun _ => W.t (by omega) (W.t (by omega) (W.dt (by omega) (W.dt (by omega) next))))))
end Go.Proofs.YtgknckbplbldbaaDoor.R
