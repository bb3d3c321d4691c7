/- What GreatestExcess answers, in the program and in the reference. -/
import Derived.Test.YtbabgpkfppdfnaaMuck
import Derived.Test.YtbabgpkfppdfnaaGx6
import Derived.Test.YtbabgpkfppdfnaaGx5
namespace Go.Proofs.Ytbabgpkfppdfnaa.K
open Go.RowKit Go.Proofs.Ytbabgpkfppdfnaa.G Go.Proofs.YtbabgpkfppdfnaaW.PrintWords Go.Proofs.YtbabgpkfppdfnaaW.PrintLast Go.Proofs.YtbabgpkfppdfnaaW.PrintMore
set_option linter.unusedVariables false
set_option linter.unusedSimpArgs false

/-- The inner search: runs that begin at i; j is where it stands, s the sum so far. -/
def exIn (a i : Int) : Int → Int → Int × Int × Int → List Int → Int × Int × Int
  | _, _, t, [] => t
  | j, s, t, n :: r => if s + (n - a) > t.2.2 then exIn a i (j + 1) (s + (n - a)) (i, j, s + (n - a)) r else exIn a i (j + 1) (s + (n - a)) t r
def exOut (a : Int) : Int → Int × Int × Int → List Int → Int × Int × Int
  | _, t, [] => t
  | i, t, n :: r => exOut a (i + 1) (exIn a i i 0 t (n :: r)) r
theorem specIn_eq (l : List Int) (a i : Int) (ha : 0 ≤ a ∧ a ≤ 1000000) (hl : l.length ≤ 60) (hm : ∀ x ∈ l, -1000000 ≤ x ∧ x ≤ 1000000) (hi : 0 ≤ i ∧ i ≤ 60) :
    ∀ (rest pre : List Int) (s : Int) (t : Int × Int × Int) (k : Nat), l = pre ++ rest → -2000000 * pre.length ≤ s → s ≤ 2000000 * pre.length →
    spec_GreatestExcess.l1 (k + rest.length + 1) l a t.1 t.2.1 t.2.2 i s pre.length = spec_GreatestExcess.l0 k l a (exIn a i pre.length s t rest).1 (exIn a i pre.length s t rest).2.1 (exIn a i pre.length s t rest).2.2 (i + 1) := by
  intro rest
  induction rest with
  | nil =>
    intro pre s t k e h1 h2
    simp only [spec_GreatestExcess.l1]
    rw [if_neg (by rw [e]; simp), w64 (by omega) (by omega)]
    simp [exIn]
  | cons x rest ih =>
    intro pre s t k e h1 h2
    have hlen : l.length = pre.length + (rest.length + 1) := by rw [e]; simp
    have hx := hm x (by rw [e]; simp)
    have e1 : rd l (pre.length : Int) = x := by rw [e]; exact rd_mid _ _ _
    rw [List.length_cons, ← Nat.add_assoc, spec_GreatestExcess.l1]
    rw [if_pos (by omega), if_pos (by omega), e1, w64 (i := x - a) (by omega) (by omega), w64 (i := s + (x - a)) (by omega) (by omega), w64 (i := (pre.length : Int) + 1) (by omega) (by omega)]
    simp only [exIn]
    split
    · have := ih (pre ++ [x]) (s + (x - a)) (i, (pre.length : Int), s + (x - a)) k (by simp [e]) (by simp; omega) (by simp; omega)
      simpa using this
    · have := ih (pre ++ [x]) (s + (x - a)) t k (by simp [e]) (by simp; omega) (by simp; omega)
      simpa using this
theorem specOut_ev (l : List Int) (a : Int) (ha : 0 ≤ a ∧ a ≤ 1000000) (hl : l.length ≤ 60) (hm : ∀ x ∈ l, -1000000 ≤ x ∧ x ≤ 1000000) :
    ∀ (rest pre : List Int) (t : Int × Int × Int), l = pre ++ rest → ∃ K, ∀ k, K ≤ k →
    spec_GreatestExcess.l0 k l a t.1 t.2.1 t.2.2 pre.length = some ((exOut a pre.length t rest).1, (exOut a pre.length t rest).2.1, (exOut a pre.length t rest).2.2, true) := by
  intro rest
  induction rest with
  | nil =>
    intro pre t e
    refine ⟨1, fun k hk => ?_⟩
    obtain ⟨k, rfl⟩ : ∃ j, k = j + 1 := ⟨k - 1, by omega⟩
    simp only [spec_GreatestExcess.l0]
    rw [if_neg (by rw [e]; simp)]
    simp [exOut]
  | cons x rest ih =>
    intro pre t e
    have hlen : l.length = pre.length + (rest.length + 1) := by rw [e]; simp
    obtain ⟨K, hK⟩ := ih (pre ++ [x]) (exIn a pre.length pre.length 0 t (x :: rest)) (by simp [e])
    refine ⟨K + (x :: rest).length + 1 + 1, fun k hk => ?_⟩
    obtain ⟨k, rfl⟩ : ∃ j, k = j + (x :: rest).length + 1 + 1 := ⟨k - (x :: rest).length - 1 - 1, by omega⟩
    rw [spec_GreatestExcess.l0]
    rw [if_pos (by omega)]
    rw [specIn_eq l a pre.length ha hl hm (by omega) (x :: rest) pre 0 t k e (by omega) (by omega)]
    have := hK k (by omega)
    simp only [exOut]
    simpa using this
theorem implIn_eq (l D : List Int) (a : Int) (i : Nat) (ha : 0 ≤ a ∧ a ≤ 1000000) (hl : l.length ≤ 60) (hm : ∀ x ∈ D, -1000000 ≤ x ∧ x ≤ 1000000) (hi : i + D.length ≤ 60) :
    ∀ (rest pre : List Int) (s : Int) (t : Int × Int × Int) (k : Nat), D = pre ++ rest → -2000000 * pre.length ≤ s → s ≤ 2000000 * pre.length →
    impl_GreatestExcess.l1 (k + rest.length + 1) l a t.1 t.2.1 t.2.2 i s l.length i D D.length pre.length = impl_GreatestExcess.l0 k l a (exIn a i (i + pre.length) s t rest).1 (exIn a i (i + pre.length) s t rest).2.1 (exIn a i (i + pre.length) s t rest).2.2 l.length (i + 1) := by
  intro rest
  induction rest with
  | nil =>
    intro pre s t k e h1 h2
    simp only [impl_GreatestExcess.l1]
    rw [if_neg (by rw [e]; simp), w64 (by omega) (by omega)]
    simp [exIn]
  | cons x rest ih =>
    intro pre s t k e h1 h2
    have hlen : D.length = pre.length + (rest.length + 1) := by rw [e]; simp
    have hx := hm x (by rw [e]; simp)
    have e1 : rd D (pre.length : Int) = x := by rw [e]; exact rd_mid _ _ _
    rw [List.length_cons, ← Nat.add_assoc, impl_GreatestExcess.l1]
    rw [if_pos (by omega), if_pos (by omega), if_pos (by omega), e1, w64 (i := x - a) (by omega) (by omega), w64 (i := s + (x - a)) (by omega) (by omega), w64 (i := (pre.length : Int) + 1) (by omega) (by omega), w64 (i := (i : Int) + pre.length) (by omega) (by omega)]
    simp only [exIn]
    split
    · have := ih (pre ++ [x]) (s + (x - a)) ((i : Int), (i : Int) + pre.length, s + (x - a)) k (by simp [e]) (by simp; omega) (by simp; omega)
      simpa [Int.add_assoc] using this
    · have := ih (pre ++ [x]) (s + (x - a)) t k (by simp [e]) (by simp; omega) (by simp; omega)
      simpa [Int.add_assoc] using this
theorem implOut_ev (l : List Int) (a : Int) (ha : 0 ≤ a ∧ a ≤ 1000000) (hl : l.length ≤ 60) (hm : ∀ x ∈ l, -1000000 ≤ x ∧ x ≤ 1000000) :
    ∀ (rest pre : List Int) (t : Int × Int × Int), l = pre ++ rest → ∃ K, ∀ k, K ≤ k →
    impl_GreatestExcess.l0 k l a t.1 t.2.1 t.2.2 l.length pre.length = some ((exOut a pre.length t rest).1, (exOut a pre.length t rest).2.1, (exOut a pre.length t rest).2.2, true) := by
  intro rest
  induction rest with
  | nil =>
    intro pre t e
    refine ⟨1, fun k hk => ?_⟩
    obtain ⟨k, rfl⟩ : ∃ j, k = j + 1 := ⟨k - 1, by omega⟩
    simp only [impl_GreatestExcess.l0]
    rw [if_neg (by rw [e]; simp)]
    simp [exOut]
  | cons x rest ih =>
    intro pre t e
    have hlen : l.length = pre.length + (rest.length + 1) := by rw [e]; simp
    obtain ⟨K, hK⟩ := ih (pre ++ [x]) (exIn a pre.length pre.length 0 t (x :: rest)) (by simp [e])
    refine ⟨K + (x :: rest).length + 1 + 1, fun k hk => ?_⟩
    obtain ⟨k, rfl⟩ : ∃ j, k = j + (x :: rest).length + 1 + 1 := ⟨k - (x :: rest).length - 1 - 1, by omega⟩
    rw [impl_GreatestExcess.l0]
    have e2 : ((pre.length : Int)).toNat = pre.length := by omega
    have e3 : l.drop pre.length = x :: rest := by rw [e]; simp
    rw [if_pos (by omega), if_pos (by omega), if_pos (by omega), e2, e3]
    have := implIn_eq l (x :: rest) a pre.length ha hl (fun y hy => hm y (by rw [e]; exact List.mem_append_right _ hy)) (by simp; omega) (x :: rest) [] 0 t k rfl (by simp) (by simp)
    simp only [List.length_nil, Int.natCast_zero, Int.add_zero] at this
    rw [this]
    have := hK k (by omega)
    simp only [exOut]
    simpa using this
def excV (l : List Int) (a : Int) : Int × Int × Int × Bool :=
  if few (-1000000) 1000000 l && inR 0 1000000 a && decide (l ≠ []) then ((exOut a 0 (0, 0, l.headD 0 - a) l).1, (exOut a 0 (0, 0, l.headD 0 - a) l).2.1, (exOut a 0 (0, 0, l.headD 0 - a) l).2.2, true) else (0, 0, 0, false)
theorem rd_zero (l : List Int) : rd l 0 = l.headD 0 := by
  cases l <;> simp [rd]
theorem specExcess_ev (l : List Int) (a : Int) (hl : l.length ≤ 1048576) : ∃ K, ∀ k, K ≤ k → spec_GreatestExcess.f k l a = some (excV l a) := by
  unfold spec_GreatestExcess.f excV
  have bad : ∀ k, spec_GreatestExcess.j0 (k + 1) l a true = some (0, 0, 0, false) := fun k => by simp [spec_GreatestExcess.j0]
  cases h1 : few (-1000000) 1000000 l
  · refine ⟨l.length + 1, fun k hk => ?_⟩
    obtain ⟨k, rfl⟩ : ∃ j, k = j + 1 := ⟨k - 1, by omega⟩
    rw [l06Balance_eq l _ hl (by omega), h1]
    simp [bad]
  cases h2 : inR 0 1000000 a
  · refine ⟨l.length + 1, fun k hk => ?_⟩
    obtain ⟨k, rfl⟩ : ∃ j, k = j + 1 := ⟨k - 1, by omega⟩
    rw [l06Balance_eq l _ hl (by omega), h1, l06Bound_eq, h2]
    simp [bad]
  have hm := few_mem h1
  have h60 := few_len h1
  have ha := inR_iff.1 h2
  by_cases h3 : l = []
  · refine ⟨l.length + 1, fun k hk => ?_⟩
    obtain ⟨k, rfl⟩ : ∃ j, k = j + 1 := ⟨k - 1, by omega⟩
    rw [l06Balance_eq l _ hl (by omega), h1, l06Bound_eq, h2]
    subst h3
    simp [bad]
  · have hpos : 0 < l.length := List.length_pos_iff.2 h3
    obtain ⟨K, hK⟩ := specOut_ev l a ha h60 hm l [] (0, 0, l.headD 0 - a) rfl
    refine ⟨K + l.length + 2, fun k hk => ?_⟩
    obtain ⟨k, rfl⟩ : ∃ j, k = j + 1 := ⟨k - 1, by omega⟩
    rw [l06Balance_eq l _ hl (by omega), h1, l06Bound_eq, h2]
    have e0 : ((l.length : Int) == 0) = false := by simpa using h3
    have hh : -1000000 ≤ l.headD 0 ∧ l.headD 0 ≤ 1000000 := by
      cases l with
      | nil => exact absurd rfl h3
      | cons x r => exact hm x (by simp)
    simp only [Option.bind_some, if_true, e0, spec_GreatestExcess.j0]
    rw [if_neg (by simp), if_pos (by omega), rd_zero, w64 (by omega) (by omega)]
    have := hK k (by omega)
    simp only [List.length_nil, Int.natCast_zero] at this
    rw [this]
    simp [h3]
theorem implExcess_ev (l : List Int) (a : Int) (hl : l.length ≤ 1048576) : ∃ K, ∀ k, K ≤ k → impl_GreatestExcess.f k l a = some (excV l a) := by
  unfold impl_GreatestExcess.f excV
  have bad : ∀ k, impl_GreatestExcess.j0 (k + 1) l a true = some (0, 0, 0, false) := fun k => by simp [impl_GreatestExcess.j0]
  by_cases h12 : (few (-1000000) 1000000 l && inR 0 1000000 a) = true
  · have hb := h12
    simp only [Bool.and_eq_true] at hb
    have hm := few_mem hb.1
    have h60 := few_len hb.1
    have ha := inR_iff.1 hb.2
    by_cases h3 : l = []
    · refine ⟨1, fun k hk => ?_⟩
      obtain ⟨k, rfl⟩ : ∃ j, k = j + 1 := ⟨k - 1, by omega⟩
      rw [isBalance_eq, h12]
      subst h3
      simp [bad]
    · have hpos : 0 < l.length := List.length_pos_iff.2 h3
      obtain ⟨K, hK⟩ := implOut_ev l a ha h60 hm l [] (0, 0, l.headD 0 - a) rfl
      refine ⟨K + 2, fun k hk => ?_⟩
      obtain ⟨k, rfl⟩ : ∃ j, k = j + 1 := ⟨k - 1, by omega⟩
      rw [isBalance_eq, h12]
      have e0 : ((l.length : Int) == 0) = false := by simpa using h3
      have hh : -1000000 ≤ l.headD 0 ∧ l.headD 0 ≤ 1000000 := by
        cases l with
        | nil => exact absurd rfl h3
        | cons x r => exact hm x (by simp)
      simp only [Option.bind_some, if_true, e0, impl_GreatestExcess.j0]
      rw [if_neg (by simp), if_pos (by omega), rd_zero, w64 (by omega) (by omega)]
      have := hK k (by omega)
      simp only [List.length_nil, Int.natCast_zero] at this
      rw [this]
      simp [h3]
  · refine ⟨1, fun k hk => ?_⟩
    obtain ⟨k, rfl⟩ : ∃ j, k = j + 1 := ⟨k - 1, by omega⟩
    rw [isBalance_eq]
    simp only [Bool.not_eq_true] at h12
    rw [h12]
    simp [bad]
end Go.Proofs.Ytbabgpkfppdfnaa.K
