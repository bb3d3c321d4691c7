/- Numbers in texts, and texts in pieces. No program. -/
import Derived.Test.YtmgelocefebldaaGreatDoorRvTx
import Derived.Lib.SplitLaws
import Derived.Lib.ParseIntB
namespace Go.Rv.Tx
open Go.Rv
set_option linter.unusedVariables false
set_option linter.unusedSimpArgs false
/-! ### digits -/
theorem digit_nat {u : Nat} (h : u < 10) : (UInt8.ofNat (48 + u)).toNat = 48 + u := by simp; omega
theorem parse_dec (M : Nat) (hM : M ≤ 18446744073709551615) : ∀ (u : Nat) (r : List UInt8), u ≤ M → Lib.parseUintM M 0 (Lib.decDigits u ++ r) = Lib.parseUintM M u r := by
  intro u
  induction u using Nat.strongRecOn with
  | _ u ih =>
    intro r hu
    rw [Lib.decDigits]
    split
    · rename_i h
      have hd := digit_nat h
      simp only [List.singleton_append, Lib.parseUintM]
      rw [if_pos (by omega), if_neg (by omega), if_neg (by omega)]
      congr 1
      omega
    · rename_i h
      have hd := digit_nat (Nat.mod_lt u (show 10 > 0 by decide))
      rw [List.append_assoc, ih (u / 10) (by omega) _ (by omega)]
      simp only [List.singleton_append, Lib.parseUintM]
      rw [if_pos (by omega), if_neg (by omega), if_neg (by omega)]
      congr 1
      omega
theorem dec_ne (u : Nat) : Lib.decDigits u ≠ [] := by
  rw [Lib.decDigits]
  split <;> simp
/-- the first digit -/
theorem dec_head (u : Nat) : ∃ c r, Lib.decDigits u = c :: r ∧ 48 ≤ c.toNat ∧ c.toNat ≤ 57 := by
  induction u using Nat.strongRecOn with
  | _ u ih =>
    rw [Lib.decDigits]
    split
    · rename_i h
      have hd := digit_nat h
      exact ⟨_, [], rfl, by omega, by omega⟩
    · obtain ⟨c, r, e, h1, h2⟩ := ih (u / 10) (by omega)
      exact ⟨c, r ++ [UInt8.ofNat (48 + u % 10)], by rw [e]; rfl, h1, h2⟩
theorem parseB_dec (u : Nat) (h : u ≤ 18446744073709551615) : Lib.parseUintB 64 (Lib.decDigits u) = .ok u := by
  have h1 := parse_dec 18446744073709551615 (by decide) u [] h
  rw [List.append_nil] at h1
  unfold Lib.parseUintB
  rw [if_neg (dec_ne u)]
  exact h1
theorem parse_itoa (v : Int) (h0 : -9223372036854775808 ≤ v) (h1 : v ≤ 9223372036854775807) : Lib.parseIntB 64 (Lib.itoa v) = .ok v := by
  unfold Lib.itoa
  split
  · rename_i h
    simp only [Lib.parseIntB]
    have e45 : (45 : UInt8).toNat = 45 := rfl
    rw [if_pos (by simp [e45]), parseB_dec _ (by omega)]
    simp only [e45, not_true_eq_false, false_and, if_false, true_and, if_true]
    rw [if_neg (by omega)]
    congr 1
    omega
  · rename_i h
    obtain ⟨c, r, e, c1, c2⟩ := dec_head v.toNat
    have hp := parseB_dec v.toNat (by omega)
    rw [e] at hp ⊢
    simp only [Lib.parseIntB]
    rw [if_neg (by omega), hp]
    have hn : ¬ c.toNat = 45 := by omega
    simp only [hn, not_false_eq_true, true_and, false_and, if_false]
    rw [if_neg (by omega)]
    congr 1
    omega
theorem parse_range {l : List UInt8} {v : Int} (h : Lib.parseIntB 64 l = .ok v) : -9223372036854775808 ≤ v ∧ v ≤ 9223372036854775807 := by
  cases l with
  | nil => cases h
  | cons c r =>
    simp only [Lib.parseIntB] at h
    split at h
    · cases h
    · cases h
    · rename_i u hu
      split at h
      · cases h
      · split at h
        · cases h
        · rename_i h1 h2
          cases h
          split <;> rename_i hc <;> simp only [hc, not_true_eq_false, not_false_eq_true, true_and, false_and] at h1 h2 <;> omega
theorem itoa_inj {a b : Int} (ha : -9223372036854775808 ≤ a ∧ a ≤ 9223372036854775807) (hb : -9223372036854775808 ≤ b ∧ b ≤ 9223372036854775807) (h : Lib.itoa a = Lib.itoa b) : a = b := by
  have h1 := parse_itoa a ha.1 ha.2
  rw [h, parse_itoa b hb.1 hb.2] at h1
  cases h1
  rfl
/-- what a text tells, of numbers in a range -/
def IsN (lo hi : Int) (l : List UInt8) (v : Int) : Prop := l = Lib.itoa v ∧ lo ≤ v ∧ v ≤ hi
open Classical in
noncomputable def rdIn (lo hi : Int) (l : List UInt8) : Int × Bool := if h : ∃ v, IsN lo hi l v then (h.choose, true) else (0, false)
theorem rdIn_yes {lo hi : Int} {l : List UInt8} {v : Int} (hr : -9223372036854775808 ≤ lo ∧ hi ≤ 9223372036854775807) (h : IsN lo hi l v) : rdIn lo hi l = (v, true) := by
  have he : ∃ v, IsN lo hi l v := ⟨v, h⟩
  unfold rdIn
  rw [dif_pos he]
  have hc := he.choose_spec
  have : he.choose = v := itoa_inj (by have := hc.2; omega) (by have := h.2; omega) (hc.1.symm.trans h.1)
  rw [this]
theorem rdIn_no {lo hi : Int} {l : List UInt8} (h : ∀ v, ¬ IsN lo hi l v) : rdIn lo hi l = (0, false) := by
  unfold rdIn
  rw [dif_neg (fun ⟨v, hv⟩ => h v hv)]
theorem rdIn_cases (lo hi : Int) (l : List UInt8) (hr : -9223372036854775808 ≤ lo ∧ hi ≤ 9223372036854775807) : (∃ v, IsN lo hi l v ∧ rdIn lo hi l = (v, true)) ∨ ((∀ v, ¬ IsN lo hi l v) ∧ rdIn lo hi l = (0, false)) := by
  by_cases h : ∃ v, IsN lo hi l v
  · obtain ⟨v, hv⟩ := h
    exact .inl ⟨v, hv, rdIn_yes hr hv⟩
  · exact .inr ⟨fun v hv => h ⟨v, hv⟩, rdIn_no fun v hv => h ⟨v, hv⟩⟩
/-! ### the digits' value, as the reference reckons it -/
def dval : Nat → List UInt8 → Option Nat
  | n, [] => some n
  | n, c :: r => if 48 ≤ c.toNat ∧ c.toNat ≤ 57 then dval (10 * n + (c.toNat - 48)) r else none
theorem dval_dec : ∀ (u : Nat) (r : List UInt8), dval 0 (Lib.decDigits u ++ r) = dval u r := by
  intro u
  induction u using Nat.strongRecOn with
  | _ u ih =>
    intro r
    rw [Lib.decDigits]
    split
    · rename_i h
      have hd := digit_nat h
      simp only [List.singleton_append, dval]
      rw [if_pos (by omega)]
      congr 1
      omega
    · rename_i h
      have hd := digit_nat (Nat.mod_lt u (show 10 > 0 by decide))
      rw [List.append_assoc, ih (u / 10) (by omega)]
      simp only [List.singleton_append, dval]
      rw [if_pos (by omega)]
      congr 1
      omega
theorem dval_le : ∀ (r : List UInt8) (n m : Nat), dval n r = some m → n ≤ m
  | [], n, m, h => by simp only [dval, Option.some.injEq] at h; omega
  | c :: r, n, m, h => by
    simp only [dval] at h
    split at h
    · have := dval_le r _ m h; omega
    · cases h
theorem nDigits_le : ∀ (k u : Nat), u < 10 ^ (k + 1) → Lib.nDigits u ≤ k + 1
  | 0, u, h => by rw [Lib.nDigits_small (by simpa using h)]; exact Nat.le_refl _
  | k + 1, u, h => by
    by_cases hu : u < 10
    · rw [Lib.nDigits_small hu]; omega
    · rw [Lib.nDigits_big hu]
      have := nDigits_le k (u / 10) (by rw [Nat.pow_succ] at h; omega)
      omega
theorem itoa_short {v : Int} (h0 : -1000000000 ≤ v) (h1 : v ≤ 1000000000) : (Lib.itoa v).length ≤ 11 := by
  unfold Lib.itoa
  split
  · have := nDigits_le 9 v.natAbs (by omega)
    rw [List.length_cons, Lib.decDigits_length]; omega
  · have := nDigits_le 9 v.toNat (by omega)
    rw [Lib.decDigits_length]; omega
theorem itoa_ne (v : Int) : Lib.itoa v ≠ [] := by
  unfold Lib.itoa
  split
  · simp
  · exact dec_ne _
/-! ### pieces -/
/-- the pieces of a text between a byte -/
def pcs (c : UInt8) : List UInt8 → List (List UInt8)
  | [] => [[]]
  | b :: l => if b = c then [] :: pcs c l else (b :: (pcs c l).headD []) :: (pcs c l).tail
theorem pcs_ne (c : UInt8) (l : List UInt8) : pcs c l ≠ [] := by
  cases l with
  | nil => simp [pcs]
  | cons b l => simp only [pcs]; split <;> simp
theorem pcs_free {c : UInt8} : ∀ {l : List UInt8}, c ∉ l → pcs c l = [l]
  | [], _ => rfl
  | b :: l, h => by
    have hb : ¬ b = c := fun e => h (by rw [e]; simp)
    have hl := pcs_free (l := l) fun hm => h (List.mem_cons_of_mem _ hm)
    simp [pcs, hb, hl]
theorem pcs_cut {c : UInt8} : ∀ {p : List UInt8} (r : List UInt8), c ∉ p → pcs c (p ++ c :: r) = p :: pcs c r
  | [], r, _ => by simp [pcs]
  | b :: p, r, h => by
    have hb : ¬ b = c := fun e => h (by rw [e]; simp)
    have hl := pcs_cut (p := p) r fun hm => h (List.mem_cons_of_mem _ hm)
    simp only [List.cons_append, pcs, hb, if_false, hl]
    simp
theorem mem_split {c : UInt8} : ∀ {l : List UInt8}, c ∈ l → ∃ p r, l = p ++ c :: r ∧ c ∉ p
  | b :: l, h => by
    by_cases hb : b = c
    · exact ⟨[], l, by rw [hb]; rfl, by simp⟩
    · obtain ⟨p, r, e, hp⟩ := mem_split (l := l) (by
        rcases List.mem_cons.1 h with e | h
        · exact (hb e.symm).elim
        · exact h)
      exact ⟨b :: p, r, by rw [e]; rfl, fun hm => by
        rcases List.mem_cons.1 hm with e | hm
        · exact hb e.symm
        · exact hp hm⟩
theorem index_free {c : UInt8} {l : List UInt8} (h : c ∉ l) : Lib.index l [c] = -1 := by
  refine Lib.index_none fun j hj => ?_
  unfold Lib.occAt
  cases hd : l.drop j with
  | nil => rfl
  | cons b t =>
    have : b ∈ l := List.mem_of_mem_drop (i := j) (by rw [hd]; simp)
    have hb : ¬ c = b := fun e => h (by rw [e]; exact this)
    simp [List.isPrefixOf, hb]
theorem index_at {c : UInt8} {p : List UInt8} (r : List UInt8) (h : c ∉ p) : Lib.index (p ++ c :: r) [c] = (p.length : Int) := by
  refine Lib.index_first (by simp) (by simp [Lib.occAt, List.isPrefixOf]) fun j hj => ?_
  unfold Lib.occAt
  rw [List.drop_append_of_le_length (by omega)]
  cases hd : p.drop j with
  | nil => have := congrArg List.length hd; simp at this; omega
  | cons b t =>
    have : b ∈ p := List.mem_of_mem_drop (i := j) (by rw [hd]; simp)
    have hb : ¬ c = b := fun e => h (by rw [e]; exact this)
    simp [List.isPrefixOf, hb]
theorem splitK_pcs (c : UInt8) : ∀ (n : Nat) (l : List UInt8), l.length ≤ n → Lib.splitK [c] 0 (Lib.count l [c]) l = pcs c l
  | n, l, hn => by
    by_cases h : c ∈ l
    · obtain ⟨p, r, rfl, hp⟩ := mem_split h
      have hi := index_at r hp
      have hd : (p ++ c :: r).drop (p.length + [c].length) = r := by simp
      have hc := Lib.count_hit (by simp) hi
      rw [hd] at hc
      rw [hc, Nat.add_comm, Lib.splitK, hi, if_neg (by rw [beq_iff_eq]; omega), Int.toNat_natCast, hd, pcs_cut r hp]
      cases n with
      | zero => simp at hn
      | succ n => rw [splitK_pcs c n r (by simp at hn; omega)]; simp
    · rw [Lib.count_miss (index_free h), pcs_free h]
      rfl
theorem split_bs (l : List UInt8) (c : UInt8) : (Lib.splitB (bs [c]) 0 (Lib.countB (bs l) (bs [c])) (bs l)) = (pcs c l).map bs := by
  have h := Lib.splitB_data (bs [c]) 0 (Lib.countB (bs l) (bs [c])) (bs l)
  have e1 : (bs [c]).data.toList = [c] := rfl
  have e2 : (bs l).data.toList = l := rfl
  rw [e1, e2] at h
  unfold Lib.countB at h ⊢
  rw [e1, e2] at h ⊢
  rw [splitK_pcs c _ l (Nat.le_refl _)] at h
  have h2 := congrArg (List.map bs) h
  rw [List.map_map] at h2
  have e3 : (bs ∘ fun (x : ByteArray) => x.data.toList) = id := by funext x; exact bs_bl x
  rw [e3, List.map_id] at h2
  exact h2
theorem pcs_len (c : UInt8) : ∀ l : List UInt8, (pcs c l).length ≤ l.length + 1
  | [] => by simp [pcs]
  | b :: l => by
    have := pcs_len c l
    simp only [pcs]
    split <;> simp <;> omega
theorem pcs_mem_len (c : UInt8) : ∀ (l : List UInt8), ∀ p ∈ pcs c l, p.length ≤ l.length
  | [], p, h => by simp [pcs] at h; rw [h]; simp
  | b :: l, p, h => by
    have ih := pcs_mem_len c l
    simp only [pcs] at h
    split at h
    · rcases List.mem_cons.1 h with rfl | h
      · simp
      · have := ih p h; simp; omega
    · rcases List.mem_cons.1 h with rfl | h
      · cases hp : pcs c l with
        | nil => simp
        | cons q qs => have := ih q (by rw [hp]; simp); simp; omega
      · have := ih p (List.mem_of_mem_tail h); simp; omega
/-- the pieces behind a piece that is begun: p is what stands of it -/
theorem pcs_more {c b : UInt8} (p r : List UInt8) (h : b ≠ c) (hp : c ∉ p) : c ∉ p ++ [b] := by
  intro hm
  rcases List.mem_append.1 hm with hm | hm
  · exact hp hm
  · simp at hm; exact h hm.symm
end Go.Rv.Tx
