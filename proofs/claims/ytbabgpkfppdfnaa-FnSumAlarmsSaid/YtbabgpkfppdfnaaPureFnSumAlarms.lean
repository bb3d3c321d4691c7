/- An alarm is raised exactly if the excess of some sequence of rings is greater than the limit, at the first ring at which one ends, and the told rings have this excess: the plain statement. No condition beyond the row's own bounds. -/
import Derived.Test.YtbabgpkfppdfnaaLawA
import Derived.Test.YtbabgpkfppdfnaaGx14
namespace Go.Proofs.Ytbabgpkfppdfnaa.Pure
open Go.RowKit Go.Proofs.Ytbabgpkfppdfnaa.G Go.Proofs.Ytbabgpkfppdfnaa.K Go.Proofs.YtbabgpkfppdfnaaW.PrintWords Go.Proofs.YtbabgpkfppdfnaaW.PrintLast
set_option linter.unusedVariables false
set_option linter.unusedSimpArgs false

/-- The greatest sum of the first numbers of a list (the last rings, backwards), each less the allowance; 0 if none is greater. -/
def G (a : Int) : List Int → Int
  | [] => 0
  | x :: p => max 0 (x - a + G a p)
theorem G_nonneg (a : Int) (p : List Int) : 0 ≤ G a p := by
  cases p <;> simp only [G] <;> omega
def tot (a : Int) : List Int → Int
  | [] => 0
  | x :: p => x - a + tot a p
theorem tot_append (a : Int) (p q : List Int) : tot a (p ++ q) = tot a p + tot a q := by
  induction p with
  | nil => simp [tot]
  | cons x p ih => simp only [List.cons_append, tot, ih]; omega
theorem tot_bd {a : Int} (ha : 0 ≤ a ∧ a < 12) : ∀ (p : List Int), (∀ x ∈ p, -20 ≤ x ∧ x ≤ 20) → -40 * (p.length : Int) ≤ tot a p ∧ tot a p ≤ 40 * p.length := by
  intro p
  induction p with
  | nil => intro _; simp [tot]
  | cons x p ih =>
    intro h
    have h1 := h x (by simp)
    have h2 := ih (fun y hy => h y (by simp [hy]))
    simp only [tot, List.length_cons]
    omega
/-- The running sum behind the rings p ++ rest, s behind p. -/
theorem sums_getD (a : Int) : ∀ (l : List Int) (s : Int) (pre : List Int), 0 ≤ s → s = G a pre.reverse → ∀ i, i < l.length → (sumsL a s l).getD i 0 = G a (pre ++ l.take (i + 1)).reverse := by
  intro l
  induction l with
  | nil => intro s pre _ _ i hi; simp at hi
  | cons x r ih =>
    intro s pre h0 hs i hi
    have e : max (s + x - a) 0 = G a (pre ++ [x]).reverse := by
      simp only [List.reverse_append, List.reverse_cons, List.reverse_nil, List.nil_append, List.singleton_append, G]
      omega
    cases i with
    | zero => simp only [sumsL, List.getD_cons_zero, List.take_succ_cons, List.take_zero]; exact e
    | succ i =>
      simp only [sumsL, List.getD_cons_succ]
      have := ih (max (s + x - a) 0) (pre ++ [x]) (by omega) e i (by simpa using hi)
      rw [this]
      simp
theorem G_le (a : Int) : ∀ (p q : List Int), tot a p ≤ G a (p ++ q) := by
  intro p
  induction p with
  | nil => intro q; simp only [tot]; exact G_nonneg _ _
  | cons x p ih => intro q; have := ih q; simp only [tot, List.cons_append, G]; omega

/-- What is known of an alarm. -/
theorem alarm_spec (a lim : Int) (hlim : 0 ≤ lim) (l : List Int) : ∀ (rest pre : List Int) (fr : Nat) (s : Int), l = pre ++ rest → fr ≤ pre.length → 0 ≤ s → s = G a pre.reverse → s = tot a (pre.drop fr) →
    ((alarmL lim fr pre.length (sumsL a s rest)).2.2 = false → ∀ i, pre.length ≤ i → i < l.length → G a (l.take (i + 1)).reverse ≤ lim) ∧
    ((alarmL lim fr pre.length (sumsL a s rest)).2.2 = true → ∃ f t : Nat, alarmL lim fr pre.length (sumsL a s rest) = ((f : Int), (t : Int), true) ∧ f ≤ t ∧ pre.length ≤ t ∧ t < l.length ∧
      (∀ i, pre.length ≤ i → i < t → G a (l.take (i + 1)).reverse ≤ lim) ∧ lim < G a (l.take (t + 1)).reverse ∧ tot a ((l.take (t + 1)).drop f) = G a (l.take (t + 1)).reverse) := by
  intro rest
  induction rest with
  | nil =>
    intro pre fr s e hf h0 hs ht
    refine ⟨fun _ i h1 h2 => ?_, fun h => by simp [sumsL, alarmL] at h⟩
    rw [e] at h2; simp at h2; omega
  | cons x r ih =>
    intro pre fr s e hf h0 hs ht
    have e1 : max (s + x - a) 0 = G a (pre ++ [x]).reverse := by
      simp only [List.reverse_append, List.reverse_cons, List.reverse_nil, List.nil_append, List.singleton_append, G]
      omega
    have e2 : l.take (pre.length + 1) = pre ++ [x] := by rw [e]; simp [List.take_append, List.take_of_length_le]
    have e3 : l = (pre ++ [x]) ++ r := by simp [e]
    have hlen : l.length = pre.length + (r.length + 1) := by rw [e]; simp
    simp only [sumsL, alarmL]
    by_cases c : max (s + x - a) 0 > lim
    · rw [if_pos c]
      refine ⟨fun h => by simp at h, fun _ => ⟨fr, pre.length, rfl, hf, Nat.le_refl _, by omega, fun i h1 h2 => by omega, by rw [e2, ← e1]; exact c, ?_⟩⟩
      rw [e2, ← e1, List.drop_append_of_le_length hf, tot_append, ← ht]
      simp only [tot]; omega
    · rw [if_neg c]
      have hstep : ∀ (fr' : Nat), fr' ≤ (pre ++ [x]).length → max (s + x - a) 0 = tot a ((pre ++ [x]).drop fr') →
          (((alarmL lim fr' (pre.length + 1) (sumsL a (max (s + x - a) 0) r)).2.2 = false → ∀ i, pre.length ≤ i → i < l.length → G a (l.take (i + 1)).reverse ≤ lim) ∧
          ((alarmL lim fr' (pre.length + 1) (sumsL a (max (s + x - a) 0) r)).2.2 = true → ∃ f t : Nat, alarmL lim fr' (pre.length + 1) (sumsL a (max (s + x - a) 0) r) = ((f : Int), (t : Int), true) ∧ f ≤ t ∧ pre.length ≤ t ∧ t < l.length ∧
            (∀ i, pre.length ≤ i → i < t → G a (l.take (i + 1)).reverse ≤ lim) ∧ lim < G a (l.take (t + 1)).reverse ∧ tot a ((l.take (t + 1)).drop f) = G a (l.take (t + 1)).reverse)) := by
        intro fr' hf' ht'
        obtain ⟨i1, i2⟩ := ih (pre ++ [x]) fr' (max (s + x - a) 0) e3 hf' (by omega) e1 ht'
        have en : ((pre ++ [x]).length : Int) = (pre.length : Int) + 1 := by simp
        rw [en] at i1 i2
        have here : G a (l.take (pre.length + 1)).reverse ≤ lim := by rw [e2, ← e1]; omega
        refine ⟨fun h i h1 h2 => ?_, fun h => ?_⟩
        · rcases Nat.eq_or_lt_of_le h1 with h1 | h1
          · subst h1; exact here
          · exact i1 h i (by simp; omega) h2
        · obtain ⟨f, t, q1, q2, q3, q4, q5, q6, q7⟩ := i2 h
          simp at q3
          refine ⟨f, t, q1, q2, by omega, q4, fun i h1 h2 => ?_, q6, q7⟩
          rcases Nat.eq_or_lt_of_le h1 with h1 | h1
          · subst h1; exact here
          · exact q5 i (by simp; omega) h2
      by_cases c0 : max (s + x - a) 0 = 0
      · rw [if_pos c0]
        have := hstep (pre.length + 1) (by simp) (by rw [c0]; simp [tot])
        simpa using this
      · rw [if_neg c0]
        exact hstep fr (by simp; omega) (by rw [List.drop_append_of_le_length hf, tot_append, ← ht]; simp only [tot]; omega)

theorem rd_at (l : List Int) (i : Nat) (h : i < l.length) : rd l (i : Int) = l[i] := by
  simp [rd, h]
theorem take_snoc' (l : List Int) (j : Nat) (h : j < l.length) : l.take (j + 1) = l.take j ++ [l[j]] := by
  rw [List.take_add_one, List.getElem?_eq_getElem h]; rfl
section
variable (l S : List Int) (a lim fr at_ : Int) (b : Bool) (ha : 0 ≤ a ∧ a < 12) (hl : l.length ≤ 10) (hm : ∀ x ∈ l, -20 ≤ x ∧ x ≤ 20)
include ha hl hm
theorem inner_eq (fst i : Int) : ∀ (j : Nat), j ≤ l.length → ∀ (m s : Int) (k : Nat), s ≤ m → -400 ≤ s → s - 40 * j ≥ -400 → s + 40 * j ≤ 400 → m ≤ 400 →
    laws_FnSumAlarms.l1 (k + j + 1) l a lim S fr at_ b fst i m s ((j : Int) - 1) = laws_FnSumAlarms.l1 (k + 1) l a lim S fr at_ b fst i (max m (s + G a (l.take j).reverse)) s (-1) := by
  intro j
  induction j with
  | zero =>
    intro _ m s k h1 h2 h3 h4 h5
    have : max m (s + G a (l.take 0).reverse) = m := by simp only [List.take_zero, List.reverse_nil, G]; omega
    rw [this]
    rfl
  | succ j ih =>
    intro hj m s k h1 h2 h3 h4 h5
    have hx := hm l[j] (List.getElem_mem _)
    have e1 : ((j + 1 : Nat) : Int) - 1 = (j : Int) := by omega
    rw [e1, show k + (j + 1) + 1 = (k + j + 1) + 1 by omega, laws_FnSumAlarms.l1, if_pos (by omega), if_pos (by omega), if_pos (by omega), rd_at l j (by omega)]
    rw [w64 (i := l[j] - a) (by omega) (by omega), w64 (i := s + (l[j] - a)) (by omega) (by omega), w64 (i := (j : Int) - 1) (by omega) (by omega)]
    have e2 : laws_r8Most2.f m (s + (l[j] - a)) = some (max m (s + (l[j] - a))) := by
      unfold laws_r8Most2.f
      split <;> (congr 1; omega)
    rw [e2]
    simp only [Option.bind_some]
    rw [ih (by omega) _ _ k (by omega) (by omega) (by omega) (by omega) (by omega)]
    have hG := G_nonneg a (l.take j).reverse
    have e3 : max (max m (s + (l[j] - a))) (s + (l[j] - a) + G a (l.take j).reverse) = max m (s + G a (l.take (j + 1)).reverse) := by
      rw [take_snoc' l j (by omega)]
      simp only [List.reverse_append, List.reverse_cons, List.reverse_nil, List.nil_append, List.singleton_append, G]
      omega
    rw [e3]
    cases k with
    | zero => simp only [laws_FnSumAlarms.l1]; rfl
    | succ k => rw [laws_FnSumAlarms.l1, laws_FnSumAlarms.l1]; rfl
/-- The end of the law: the told rings have this excess. -/
theorem last_eq (f t : Nat) (hft : f ≤ t) (ht : t < l.length) (hS : S.length = l.length) (hs : tot a ((l.take (t + 1)).drop f) = rd S t) (hlim : rd S t > lim) :
    ∀ (d j : Nat), f ≤ j → j + d = t + 1 → ∀ k, d < k → laws_FnSumAlarms.l2 k l a lim S t (tot a ((l.take j).drop f)) j = some true := by
  intro d
  induction d with
  | zero =>
    intro j h1 h2 k hk
    obtain ⟨k, rfl⟩ : ∃ q, k = q + 1 := ⟨k - 1, by omega⟩
    obtain rfl : j = t + 1 := by omega
    rw [laws_FnSumAlarms.l2, if_neg (by omega), if_pos (by omega), if_pos (by omega), if_pos (by omega), hs]
    simp
  | succ d ih =>
    intro j h1 h2 k hk
    obtain ⟨k, rfl⟩ : ∃ q, k = q + 1 := ⟨k - 1, by omega⟩
    have hx := hm l[j] (List.getElem_mem _)
    have hb := tot_bd ha ((l.take j).drop f) (fun x hx => hm x (List.mem_of_mem_take (List.mem_of_mem_drop hx)))
    have hlen : ((l.take j).drop f).length ≤ 10 := by simp; omega
    rw [laws_FnSumAlarms.l2, if_pos (by omega), if_pos (by omega), if_pos (by omega), rd_at l j (by omega)]
    rw [w64 (i := l[j] - a) (by omega) (by omega), w64 (i := tot a ((l.take j).drop f) + (l[j] - a)) (by omega) (by omega), w64 (i := (j : Int) + 1) (by omega) (by omega)]
    have e : tot a ((l.take j).drop f) + (l[j] - a) = tot a ((l.take (j + 1)).drop f) := by
      rw [take_snoc' l j (by omega), List.drop_append_of_le_length (by simp; omega), tot_append]
      simp only [tot]; omega
    rw [e]
    exact ih (j + 1) (by omega) (by omega) k (by omega)
/-- The law's outer loop, where first is told. -/
theorem outer_ev (hS : S.length = l.length) (hSG : ∀ i, i < l.length → rd S i = G a (l.take (i + 1)).reverse)
    (hno : b = false → ∀ i, i < l.length → G a (l.take (i + 1)).reverse ≤ lim)
    (hyes : b = true → ∃ f t : Nat, fr = f ∧ at_ = t ∧ f ≤ t ∧ t < l.length ∧ (∀ i, i < t → G a (l.take (i + 1)).reverse ≤ lim) ∧ lim < G a (l.take (t + 1)).reverse ∧ tot a ((l.take (t + 1)).drop f) = G a (l.take (t + 1)).reverse) :
    ∀ (d i : Nat), i + d = l.length → ∀ k, 40 + 20 * d < k → laws_FnSumAlarms.l0 k l a lim S fr at_ b (if b = true ∧ at_ < i then at_ else -1) i = some true := by
  intro d
  induction d with
  | zero =>
    intro i hi k hk
    obtain ⟨k, rfl⟩ : ∃ q, k = q + 1 := ⟨k - 1, by omega⟩
    rw [laws_FnSumAlarms.l0, if_neg (by omega)]
    cases b with
    | false => simp
    | true =>
      obtain ⟨f, t, rfl, rfl, h1, h2, h3, h4, h5⟩ := hyes rfl
      have e : (if true = true ∧ (t : Int) < i then (t : Int) else -1) = t := by rw [if_pos ⟨rfl, by omega⟩]
      rw [e]
      have e2 : decide ((t : Int) ≥ 0) = true := decide_eq_true (by omega)
      rw [e2, if_neg (by simp), if_pos rfl, if_pos rfl, if_neg (by omega)]
      have e3 : decide ((f : Int) > t) = false := decide_eq_false (by omega)
      obtain ⟨k, rfl⟩ : ∃ q, k = q + 1 := ⟨k - 1, by omega⟩
      rw [e3, laws_FnSumAlarms.j3, if_neg (by simp)]
      have e4 : tot a ((l.take f).drop f) = 0 := by
        rw [List.drop_eq_nil_of_le (by simp; omega)]; rfl
      have := last_eq l S a lim ha hl hm f t h1 h2 hS (by rw [h5, hSG t h2]) (by rw [hSG t h2]; exact h4) (t + 1 - f) f (Nat.le_refl _) (by omega) k (by omega)
      rw [e4] at this
      exact this
  | succ d ih =>
    intro i hi k hk
    obtain ⟨k, rfl⟩ : ∃ q, k = q + (i + 1) + 1 + 1 := ⟨k - (i + 1) - 1 - 1, by omega⟩
    rw [laws_FnSumAlarms.l0, if_pos (by omega)]
    have := inner_eq l S a lim fr at_ b ha hl hm (if b = true ∧ at_ < i then at_ else -1) i (i + 1) (by omega) 0 0 k (by omega) (by omega) (by omega) (by omega) (by omega)
    have e1 : ((i + 1 : Nat) : Int) - 1 = (i : Int) := by omega
    rw [e1] at this
    rw [this]
    have hG := G_nonneg a (l.take (i + 1)).reverse
    have e2 : max 0 (0 + G a (l.take (i + 1)).reverse) = G a (l.take (i + 1)).reverse := by omega
    rw [e2, laws_FnSumAlarms.l1, if_neg (by omega), if_pos (by omega), if_pos (by omega), if_pos (hSG i (by omega)), w64 (i := (i : Int) + 1) (by omega) (by omega)]
    have hnext := ih (i + 1) (by omega) k (by omega)
    have en : ((i + 1 : Nat) : Int) = (i : Int) + 1 := by omega
    rw [en] at hnext
    cases b with
    | false =>
      have := hno rfl i (by omega)
      rw [if_neg (by omega)]
      simpa using hnext
    | true =>
      obtain ⟨f, t, rfl, rfl, h1, h2, h3, h4, h5⟩ := hyes rfl
      rcases Nat.lt_trichotomy i t with c | c | c
      · have := h3 i c
        have z1 : ¬ ((t : Int) < i) := by omega
        have z2 : ¬ ((t : Int) < (i : Int) + 1) := by omega
        rw [if_neg (by omega)]
        simp only [z1, z2, and_false, if_false] at hnext ⊢
        exact hnext
      · subst c
        have z1 : ¬ ((i : Int) < i) := by omega
        have z2 : ((i : Int) < (i : Int) + 1) := by omega
        rw [if_pos h4]
        simp only [z1, z2, and_false, if_false, and_true, if_true] at hnext ⊢
        rw [if_pos (by omega)]
        exact hnext
      · have z1 : ((t : Int) < i) := by omega
        have z2 : ((t : Int) < (i : Int) + 1) := by omega
        simp only [z1, z2, and_true, if_true] at hnext ⊢
        rw [if_neg (show ¬ ((t : Int) < 0) by omega)]
        simp only [ite_self]
        exact hnext
end
theorem FnSumAlarms : laws_FnSumAlarms.Pure := by
  intro l0 l1 _ _ hw0 _ _ hw1
  refine ⟨1048580, ?_⟩
  unfold laws_FnSumAlarms.f
  rw [r8Long_eq]
  simp only [Option.bind_some]
  by_cases h0 : 48 < l0.length
  · simp [h0]
  by_cases h1 : 48 < l1.length
  · simp [h1]
  simp only [h0, h1, decide_false, Bool.or_self]
  rw [if_neg (by simp)]
  obtain ⟨l, hl, hm, hB⟩ := balance_ex l0 (bytes_of h0 hw0)
  obtain ⟨a, ea, a0, a1⟩ := r8At_ex l1 (bytes_of h1 hw1) 0 12 (by omega) (by omega)
  obtain ⟨lim, el, lim0, lim1⟩ := r8At_ex l1 (bytes_of h1 hw1) 1 30 (by omega) (by omega)
  have hf := few_of hl hm
  have hra : inR 0 1000000 a = true := inR_iff.2 ⟨a0, by omega⟩
  have hrl : inR 0 1000000 lim = true := inR_iff.2 ⟨lim0, by omega⟩
  have eS : sumsV l a = (sumsL a 0 l, true) := by unfold sumsV; rw [hf, hra]; rfl
  have eA : alarmV l a lim = alarmL lim 0 0 (sumsL a 0 l) := by unfold alarmV; rw [hf, hra, hrl]; rfl
  have hS := sumsL_length a 0 l
  rw [hB 1048580 (by omega), ea, el]
  simp only [Option.bind_some]
  rw [implSumsOf_eq l a 1048580 (by omega) (by omega), implAlarm_eq l a lim 1048580 (by omega) (by omega), eS, eA]
  simp only [Option.bind_some, if_true]
  have hSG : ∀ i, i < l.length → rd (sumsL a 0 l) i = G a (l.take (i + 1)).reverse := by
    intro i hi
    have := sums_getD a l 0 [] (by omega) (by simp [G]) i hi
    simpa [rd] using this
  obtain ⟨p1, p2⟩ := alarm_spec a lim lim0 l l [] 0 0 rfl (by simp) (by omega) (by simp [G]) (by simp [tot])
  simp only [List.length_nil, Int.natCast_zero] at p1 p2
  have e0 : (((sumsL a 0 l).length : Int) != (l.length : Int)) = false := by simp [hS]
  rw [e0, show (1048580 : Nat) = 1048579 + 1 from rfl, laws_FnSumAlarms.j0, if_neg (by simp)]
  have := outer_ev l (sumsL a 0 l) a lim (alarmL lim 0 0 (sumsL a 0 l)).1 (alarmL lim 0 0 (sumsL a 0 l)).2.1 (alarmL lim 0 0 (sumsL a 0 l)).2.2 ⟨a0, a1⟩ hl hm hS hSG
    (fun h i hi => p1 h i (by omega) hi)
    (fun h => by
      obtain ⟨f, t, q1, q2, q3, q4, q5, q6, q7⟩ := p2 h
      exact ⟨f, t, by rw [q1], by rw [q1], q2, q4, fun i hi => q5 i (by omega) hi, q6, q7⟩) l.length 0 (by omega) 1048579 (by omega)
  have hneg : ¬ ((alarmL lim 0 0 (sumsL a 0 l)).2.2 = true ∧ (alarmL lim 0 0 (sumsL a 0 l)).2.1 < ((0 : Nat) : Int)) := by
    rintro ⟨h, h'⟩
    obtain ⟨f, t, q1, _⟩ := p2 h
    rw [q1] at h'
    simp at h'
    omega
  rw [if_neg hneg] at this
  exact this
end Go.Proofs.Ytbabgpkfppdfnaa.Pure
