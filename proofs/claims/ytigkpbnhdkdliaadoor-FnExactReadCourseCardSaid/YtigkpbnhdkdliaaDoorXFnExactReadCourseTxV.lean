/- What the program's functions that read numbers answer. -/
import Derived.Test.YtigkpbnhdkdliaaDoorXFnExactReadCourseTxD
import Derived.Test.YtigkpbnhdkdliaaDoorRvTxN
import Derived.Test.YtigkpbnhdkdliaaDoorXFnExactReadCourseAxP
namespace Go.Proofs.YtigkpbnhdkdliaaDoor.R
open Go.Rv Go.Rv.Tx Go.Rv.Ax
set_option linter.unusedVariables false
set_option linter.unusedSimpArgs false
theorem l00In_eq' (k : Nat) (x lo hi : Int) : spec_l00In.f k x lo hi = some (inR lo hi x) := by
  unfold spec_l00In.f inR
  by_cases h : lo ≤ x <;> simp [h]
theorem u8at (l : List UInt8) (i : Nat) (h : i < l.length) (hd : 48 ≤ l[i].toNat ∧ l[i].toNat ≤ 57) : wrap64 (IntKind.u8.wrap (sAt (bs l) (i : Int) - 48)) = ((l[i].toNat - 48 : Nat) : Int) := by
  rw [at_bs l i h]
  have h2 : IntKind.u8.wrap ((l[i].toNat : Int) - 48) = ((l[i].toNat - 48 : Nat) : Int) := by
    have e : (2 : Int) ^ IntKind.u8.bits = 256 := by decide
    simp only [IntKind.wrap, IntKind.signed, Bool.false_and, Bool.false_eq_true, if_false, e]
    omega
  rw [h2]
  exact w64 (by omega) (by omega)
/-- the reference's end: the number n, with or without a sign -/
theorem valueNo_w (l : List UInt8) (hl : l.length ≤ 11) (hno : ∀ v, ¬ IsN (-1000000000) 1000000000 l v) (f : Int) : ∀ (rest pre : List UInt8) (n : Int), l = pre ++ rest →
    W (fun k m => (spec_l01Value.cs k m).2.2 (bs l) n f (pre.length : Int)) (· = (0, false)) := by
  intro rest
  have fin : ∀ (w : Int), W (fun k _ => (spec_l00In.f k w (-1000000000) 1000000000).bind fun t1 => (if (!t1) = true then some (0, false) else (spec_l01Dec.f k w).bind fun t2 => (if (!sEq t2 (bs l)) = true then some (0, false) else some (w, true)))) (· = ((0 : Int), false)) := by
    intro w
    refine W.bindN (fun k => l00In_eq' k _ _ _) ?_
    refine W.ni (fun h => W.ret rfl) (fun h => ?_)
    rw [inR_iff] at h
    refine W.bindE (l01Dec_w w (by omega) (by omega)) ?_
    rw [eq_bs]
    exact W.ndt (fun e => hno w ⟨e.symm, h.1, h.2⟩) (W.ret rfl)
  induction rest with
  | nil =>
    intro pre n e
    refine spec_l01Value.w2 (W.de (by rw [len_bs, e]; simp) ?_)
    exact W.di (fun _ => fin _) (fun _ => fin _)
  | cons c rest ih =>
    intro pre n e
    have hlen : l.length = pre.length + (rest.length + 1) := by rw [e]; simp
    have hlt : pre.length < l.length := by omega
    refine spec_l01Value.w2 ?_
    rw [len_bs]
    refine W.dt (by omega) (W.t (by omega) (W.t (by omega) ?_))
    refine W.di (fun _ => W.ret rfl) (fun _ => W.t (by omega) (W.t (by omega) ?_))
    refine W.di (fun _ => W.ret rfl) (fun _ => W.t (by omega) (W.t (by omega) ?_))
    have := ih (pre ++ [c]) (wrap64 ((wrap64 (10 * n)) + (wrap64 ((IntKind.u8.wrap ((sAt (bs l) (pre.length : Int)) - 48)))))) (by simp [e])
    rw [w64 (i := (pre.length : Int) + 1) (by omega) (by omega)]
    simpa using this
theorem valueYes_w (l : List UInt8) (hl : l.length ≤ 11) (f : Int) (m : Nat) (hm : m ≤ 1000000000) (P : Int × Bool → Prop)
    (fin : W (fun k _ => (if (decide (f = 1)) = true then (spec_l00In.f k (wrap64 (0 - (m : Int))) (-1000000000) 1000000000).bind fun t1 => (if (!t1) = true then some (0, false) else (spec_l01Dec.f k (wrap64 (0 - (m : Int)))).bind fun t2 => (if (!sEq t2 (bs l)) = true then some (0, false) else some ((wrap64 (0 - (m : Int))), true))) else (spec_l00In.f k (m : Int) (-1000000000) 1000000000).bind fun t3 => (if (!t3) = true then some (0, false) else (spec_l01Dec.f k (m : Int)).bind fun t4 => (if (!sEq t4 (bs l)) = true then some (0, false) else some ((m : Int), true))))) P) : ∀ (rest pre : List UInt8) (n : Nat), l = pre ++ rest → dval n rest = some m →
    W (fun k j => (spec_l01Value.cs k j).2.2 (bs l) (n : Int) f (pre.length : Int)) P := by
  intro rest
  induction rest with
  | nil =>
    intro pre n e hd
    simp only [dval, Option.some.injEq] at hd
    subst hd
    refine spec_l01Value.w2 (W.de (by rw [len_bs, e]; simp) fin)
  | cons c rest ih =>
    intro pre n e hd
    have hlen : l.length = pre.length + (rest.length + 1) := by rw [e]; simp
    have hlt : pre.length < l.length := by omega
    have hc : l[pre.length] = c := by simp [e]
    simp only [dval] at hd
    split at hd
    case isFalse => cases hd
    rename_i hr
    have hle := dval_le rest _ m hd
    have hu := u8at l pre.length hlt (by rw [hc]; exact hr)
    refine spec_l01Value.w2 ?_
    rw [len_bs, hu, at_bs l _ hlt, hc]
    refine W.dt (by omega) (W.t (by omega) (W.t (by omega) ?_))
    refine W.de (by omega) (W.t (by omega) (W.t (by omega) ?_))
    refine W.de (by omega) (W.t (by omega) (W.t (by omega) ?_))
    have := ih (pre ++ [c]) (10 * n + (c.toNat - 48)) (by simp [e]) hd
    rw [w64 (i := (pre.length : Int) + 1) (by omega) (by omega), w64 (i := 10 * (n : Int)) (by omega) (by omega), w64 (by omega) (by omega)]
    simpa using this
theorem l01Value_w (l : List UInt8) : W (fun k _ => spec_l01Value.f k (bs l)) (· = rdIn (-1000000000) 1000000000 l) := by
  refine spec_l01Value.w ?_
  rw [len_bs]
  refine W.di (fun h => W.ret ?_) (fun h0 => W.di (fun h => W.ret ?_) (fun h1 => ?_))
  · rw [rdIn_no fun v hv => itoa_ne v (by rw [← hv.1]; exact List.length_eq_zero_iff.1 (by omega))]
  · rw [rdIn_no fun v hv => by have := itoa_short hv.2.1 hv.2.2; rw [← hv.1] at this; omega]
  have hp : 0 < l.length := by omega
  refine spec_l01Value.w0 ?_
  rw [len_bs]
  refine W.t (by omega) (W.t (by omega) ?_)
  have e0 := at_bs l 0 hp
  rw [show sAt (bs l) 0 = ((l[0].toNat : Nat) : Int) from e0]
  rcases rdIn_cases (-1000000000) 1000000000 l (by decide) with ⟨v, hv, e⟩ | ⟨hno, e⟩
  · rw [e]
    obtain ⟨hv1, hv2, hv3⟩ := hv
    have endw : ∀ w : Int, w = v → W (fun k _ => (spec_l00In.f k w (-1000000000) 1000000000).bind fun t1 => (if (!t1) = true then some (0, false) else (spec_l01Dec.f k w).bind fun t2 => (if (!sEq t2 (bs l)) = true then some (0, false) else some (w, true)))) (· = (v, true)) := by
      intro w hw
      subst hw
      refine W.bindN (fun k => l00In_eq' k _ _ _) (W.ne (inR_iff.2 ⟨hv2, hv3⟩) ?_)
      refine W.bindE (l01Dec_w w (by omega) (by omega)) ?_
      rw [eq_bs]
      exact W.nde hv1.symm (W.ret rfl)
    unfold Lib.itoa at hv1
    split at hv1
    · rename_i hneg
      have hd := dval_dec v.natAbs []
      rw [List.append_nil] at hd
      have h0 : l[0].toNat = 45 := by simp [hv1]
      refine W.dt (by omega) (spec_l01Value.w1 ?_)
      exact valueYes_w l (by omega) 1 v.natAbs (by omega) _ (W.dt rfl (endw _ (by rw [w64 (by omega) (by omega)]; omega))) (Lib.decDigits v.natAbs) [45] 0 hv1 hd
    · rename_i hneg
      have hd := dval_dec v.toNat []
      rw [List.append_nil] at hd
      obtain ⟨c, r, ec, c1, c2⟩ := dec_head v.toNat
      have h0 : l[0] = c := by simp [hv1, ec]
      refine W.de (by rw [h0]; omega) (spec_l01Value.w1 ?_)
      exact valueYes_w l (by omega) 0 v.toNat (by omega) _ (W.de (by decide) (endw _ (by omega))) (Lib.decDigits v.toNat) [] 0 hv1 hd
  · rw [e]
    refine W.di (fun h => spec_l01Value.w1 ?_) (fun h => spec_l01Value.w1 ?_)
    · cases l with
      | nil => simp at hp
      | cons c r => exact valueNo_w (c :: r) (by omega) hno 1 r [c] 0 rfl
    · exact valueNo_w l (by omega) hno 0 l [] 0 rfl
end Go.Proofs.YtigkpbnhdkdliaaDoor.R
